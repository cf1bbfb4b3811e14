/- Part. -/
import Derived.Test.YtakcjkbnfegidaaGreatPT12
set_option linter.all false
namespace Go.Proofs.YtakcjkbnfegidaaGreat
open Go Go.RowKit Tryz
variable{F N a b b6 f g k lo m n:Nat}{c r:Nat->Nat}{A:bZ}{u v w w0:World}{D:Nat->Prop}{d:aU}{l:aX}{aI:Int}{L:Nat->Nat->Int}
section
open Classical
section
variable {D:Nat->Prop} {w:World} {di:Cm->Bool}
theorem acH{ms:List Cm}{c:Nat}{b1 b2 b3:Nat}(h:bu w0 w A n c 65 5 (ms.flatMap bM))(hle:n<=1000000)(hp:∀(x:Cm) (u:World),x∈ms->ax w u->aA 165 #[.agg (bM x).toArray,ptr b1,ptr b2,ptr b3] u (.bool (!di x))):aK prog 161 #[aB A n c,.func (.func 165) #[] #[ptr b1,ptr b2,ptr b3]] w (λv w'=>((v=iv (-1)/\ms.filter di=ms)\/∃k:Nat,v=iv (k:Int)/\k<n/\(ms.take (k+1)).filter di=ms.take k)/\ax w w'):=by
 have hK:∀x,(bM x).length=5:=λ_=>rfl;have J:=h.own.an;rw[bz hK] at J;apply aF func161 Z;refine aoZ ?_;rintro G k w' ⟨hk,xw,he⟩;refine cD (λhlt=>?_) λhge=>?_
 .obtain⟨m,hx⟩:=gx ms k;rcases(h.ag xw).form with⟨_,h0,_⟩|⟨g,rfl,hg0,hgl,hnc⟩
  .omega
  refine ao6 ?_;intro rest hb0 hbl htk;refine dt (hp m w' (asq hx) xw) (λw2 g x2=>?_) λw2 g x2=>?_
  .exact Uh
  .simp only[atb] at g;refine Un ?_;exact Uk
 .exact Zb
theorem acI{ms:List Cm}{c:Nat}{b1 b2 b3:Nat}(h:bu w0 w A n c 65 5 (ms.flatMap bM))(hle:n<=1000000)(hp:∀(x:Cm) (u:World),x∈ms->ax w u->aA 165 #[.agg (bM x).toArray,ptr b1,ptr b2,ptr b3] u (.bool (!di x)))(J:∀(x:Cm) (u:World),x∈ms->ax w0 u->aA 165 #[.agg (bM x).toArray,ptr b1,ptr b2,ptr b3] u (.bool (!di x))):aK prog 164 #[aB A n c,.func (.func 165) #[] #[ptr b1,ptr b2,ptr b3]] w (λv w'=>∃A' n' c',v=aB A' n' c'/\bu w0 w' A' n' c' 65 5 ((ms.filter di).flatMap bM)/\n'<=n/\aj (λb=>A≠aL b) w w'/\(A'=A\/A'=none)):=by
 have hK:∀x,(bM x).length=5:=λ_=>rfl;have O:=h.own.an;rw[bz hK] at O;apply aF func164 Z;apply aJ (acH (c:=c) h hle hp);rintro _ w1 ⟨⟨rfl,hno⟩|⟨k,rfl,hkn,hk⟩,x1⟩
 .refine adL ?_;rw[hno];exact h.ag x1
 refine cE (λe=>Y) λ_=>?_;refine go ?_;rcases h.form with⟨_,h0,_⟩|⟨g,rfl,hg0,hgl,hnc⟩
 .omega
 refine ao0 ?_;intro rest hb0 hbl;rintro G j i _ w2 ⟨a6,V,k2,cur,hcl,hb2,hc1,hc2⟩;have xw0:=(h.ae.trans x1).ag k2 λb hb _ e=>Y;refine an ?_;refine cD (λhlt=>?_) λhge=>?_
 .refine Xa ?_;intro hlt m hm hcm htk;refine fj _ (cZ hK hb2 hcm) U ?_;refine alloc λt v1' h1''=>?_;refine fg h1''.aS λw3 tb s2 zs=>?_;have t1:=h1''.au;have hgl2:=hb2.lt;have x23:ax w2 w3:=h1''.ae.ag s2 λb hb _ e=>Y;have htg:t≠g:=Y;refine go ?_;refine dt (J m w3 (asq hm) (xw0.trans x23)) (λw4 q x4=>?_) λw4 q x4=>?_
  .exact g_9
  .exact an3
 .exact g_5
end
theorem Fs{D:Nat->Prop}{w:World}:∀{xs:List Cm} {cs:aW},dW uQ D w xs cs->cs=xs.flatMap bM
 |[],cs,h=>h
 |x::xs,cs,h=>by
  obtain⟨a,b,rfl,z,u⟩:=h
  rw[ata,<-Fs u]
  rw[show a=bM x from z]
theorem bS.ann{xs:List Cm}(h:bS uQ D w A n xs):Src w A n 5 (xs.flatMap bM):=by
 obtain⟨cs,h1,u⟩:=h.acG;rw[<-Fs u];exact h1
theorem bu.WB{c:Nat}{xs:List Cm}(o:bu w0 w A n c 65 5 (xs.flatMap bM))(hn:n<=100000000)(hD:∀b,w0.heap.size<=b->b<w.heap.size->D b):bS uQ D w A n xs/\n=xs.length:=by
 have hl:n=xs.length:=by have:=o.own.an;exact Ec
 refine⟨o.own.rd (a:=uQ) Ik hl Y λg hg=>?_,hl⟩;exact aoK
section
variable {D:Nat->Prop} {w:World} {A:Option Addr} {n c:Nat}
theorem Ta{X:aW}(hd:iG D w X d)(h0:cH d=0):aK prog 70 #[.agg X.toArray] w (λv w'=>∃A' n' c',v=aB A' n' c'/\n'=d.aR.length/\bu w w' A' n' c' 3 1 (cJ (mW d))):=by
 have a8:=hd;obtain⟨A1,n1,c1,A2,z,c2,A3,n3,c3,A4,n4,c4,A5,n5,c5,A6,n6,c6,rfl,ab,W,-⟩:=hd.ex;have aa:=W.an;have V:=gY h0;obtain⟨m1,m2,-⟩:=jO h0;apply aF func70 Z;refine box λb1 w1 h1=>?_;have B1:aP w1 b1 31 [.string d.name,iv d.aG,iv d.cap,iv d.bH,aB A1 n1 c1,aB A2 z c2,aB A3 n3 c3,aB A4 n4 c4,aB A5 n5 c5,aB A6 n6 c6]:=h1.aS;refine go ?_;refine uk (λ(k:Nat) (A:bZ) (n c:Nat)=>[(10,iv (k:Int)),(2,aB A n c)]) (λk A n c u=>k<=z/\n=k/\bu w1 u A n c 3 1 (cJ ((mW d).take k))) (λk _ _ _ _=>z-k) 0 none 0 0 ⟨U,U,Yt⟩ ⟨Y,U,bu.nil (.refl _ _)⟩ U ?_;rintro G k A n c u ⟨hk,hn,o⟩;refine cD (λaf=>?_) λak=>?_
 .obtain⟨bb,oo,cs,x,rfl,hx,-,-,ao,rfl⟩:=(W.ae (h1.ae.trans o.ae)).au (show k<z from Y);have a7:jh d k=x:=jJ hx;have O:=V.fm k Y;rw[a7] at O;refine go ?_;refine alloc λb4 u1 a1=>?_;refine fg a1.aS λu2 B4 k2 z2=>?_;have B4:aP u2 b4 102 x.c:=B4;have e4:=a1.au;have M:ax u u2:=a1.ae.ag k2 λb hb _ e=>Y;have J:=o.ae.trans M;refine fj [.string d.name,iv d.aG,iv d.cap,iv d.bH,aB A1 n1 c1,aB (some (ad bb oo)) z c2,aB A3 n3 c3,aB A4 n4 c4,aB A5 n5 c5,aB A6 n6 c6] (.aS (B1.ae J)) U ?_;refine go ?_;refine bW (CL (a8.ae (h1.ae.trans J)) (by unfold jt;omega)) λu3 x3=>?_;have ce:rJ d [x.aZ]=0:=by unfold rJ;rw[asp h0,asp];simp only[atv,List.all_nil,avJ,asy];exact O
  rw[ce];refine lit [iv (cG d x.aZ)] λgg u4 hq=>?_;refine iI (((o.ag M).ag x3).ag hq.ae) (hq.src (sz:=1) U) Y λA' c' u5 o5 k5 hA=>?_;refine go ?_;refine qN (k+1) A' (n+1) c' ⟨Yn,U,Yt⟩ ⟨Y,Y,?_⟩ Y;have ht:(mW d).take (k+1)=(mW d).take k++[cG d x.aZ]:=by rw[asD];unfold mW;rw[as6,hx];rfl
  rw[ht];unfold cJ at o5|-;rw[asK];exact o5
 .have a6:k=z:=Y;have o:=o.base h1.ae;rw[a6,asx (by unfold mW;rw[asz];omega)] at o;exact aQ _ U ⟨A,n,c,U,Y,o⟩
theorem Dg{J:aW}(hd:iG D w J d):aK prog 74 #[.agg J.toArray] w (λv O=>∃z,v=.agg z.toArray/\ax w O/\iG D O z (ic d)):=by
 have a6:=hd;obtain⟨A1,n1,c1,A2,n2,c2,A3,X,c3,A4,W,c4,A5,V,c5,A6,n6,c6,rfl,h1,h2,h3,h4,h5,h6⟩:=hd.ex;refine aF func74 Z ?_;refine box λb1 w1 M=>?_;have B1:aP w1 b1 31 [.string d.name,iv d.aG,iv d.cap,iv d.bH,aB A1 n1 c1,aB A2 n2 c2,aB A3 X c3,aB A4 W c4,aB A5 V c5,aB A6 n6 c6]:=M.aS;refine alloc λb2 w2 a2=>?_;have e1:=M.au;have e2:=a2.au;have s1:=M.size;have s2:=a2.size;refine hY [iv 1099511627776,iv 1099511627776] Z ?_;refine go ?_;refine fg (B1.ae a2.ae) λw3 B3 k3 _=>?_;refine go ?_;refine fg (a2.aS.ah k3 Y) λw4 B4 k4 _=>?_;have u:=((M.ae.trans a2.ae).ag k3 λb hb _=>Y).ag k4 λb hb _=>Y;refine ret<|da _ (bU (bF.aS B4) U)<|⟨_,U,u,iG.fI ⟨A1,n1,c1,A2,n2,c2,A3,X,c3,A4,W,c4,A5,V,c5,A6,n6,c6,U,h1.ae u,h2.ae u,h3.ae u,h4.ae u,h5.ae u,h6.ae u⟩⟩
theorem Tb{z:Nat}:aK prog 80 #[aB (aL z) m m] w (λv u=>∃b,v=.func (.func 174) #[] #[ptr b]/\ax w u/\aP u b 323 [aB (aL z) m m]/\w.heap.size<=b):=by
 refine aF func80 Z<|box λJ M h1=>?_;have O:=h1.au;exact ret ⟨J,U,h1.ae,h1.aS,Y⟩
theorem vn{ss:List sv}{ls:List (List Cm)}{cap:Nat}(hb:aP w g 58 (ss.map sv.v))(hm:m=ss.length)(O:m<=8)(hs:∀s∈ss,Src w s.1 s.2.1 5 s.2.2.2/\s.2.1<=100000/\(s.2.2.2.all λu=>u.oneCell')=true)(hl:ss.flatMap (·.2.2.2)=ls.flatten.flatMap bM)(hd:fT j7 ls.flatten)(hlen:ls.flatten.length<=800000):aK prog 29 #[aB (aL g) m cap] w (λv w'=>∃A n c,v=aB A n c/\bu w w' A n c 65 5 ((il j7 ls.flatten).flatMap bM)):=by
 refine aF func29 Z<|aJ (Wr hb hm O hs) ?_;rintro _ w1 ⟨A,n,c,rfl,o⟩;rw[hl] at o;have hn:n=ls.flatten.length:=by have:=o.own.an;exact Ec
 refine lit [.func (.func 81) #[] #[],.func (.func 82) #[] #[],.func (.func 83) #[] #[],.func (.func 84) #[] #[]] λgk w2 hq=>?_;have a7:=hq.au;apply aJ Tb;rintro _ w3 ⟨b,rfl,x3,Bb,lb⟩;have x13:=hq.ae.trans x3;have J:=o.ag x13;have s2:=hq.size;rcases J.form with⟨rfl,h0,rfl⟩|⟨g2,rfl,a6,hg2,hc1⟩
 .have hx0:ls.flatten=[]:=asL Y;subst h0;apply aJ RZ;rintro _ u2 ⟨rfl,rfl⟩;refine aQ _ U ⟨none,0,0,U,?_⟩;rw[hx0];exact bu.nil J.ae
 .obtain⟨rest,Bg,hBl,-⟩:=J.own.aS;have V:g2<w1.heap.size:=by
   rcases o.form with⟨e,-⟩|⟨g3,e,-,h2,-⟩
   .cases e
   .injection e with e;injection e with e;omega
  have KR:CH w3 b 323 199 [.func (.func 81) #[] #[],.func (.func 82) #[] #[],.func (.func 83) #[] #[],.func (.func 84) #[] #[]] g2:=⟨gk,Bb,hq.aS.ae x3,Y,Y⟩;apply aJ (Sg (s:=ls.flatten) KR Bg hn Y hd);rintro _ u2 ⟨rfl,Bs,ks⟩;have hyl:(il j7 ls.flatten).length=n:=by rw[(cP _).length_eq,hn]
  have xF:=J.ae.ag ks λb hb _ e=>Y;refine aQ _ U ⟨aL g2,n,c,U,⟨jH.iH Bs (by rw[bz (K:=5) λ_=>rfl,hyl]) (by rw[asu,bz (K:=5) λ_=>rfl] at hBl|-;rw[hyl,hn];exact hBl) hc1 J.own.cap,xF,J.new⟩⟩
end
theorem Tc{α:Type}{p:α->Bool}:∀{l:List α} {k:Nat} {y:α},(∀z∈l.take k,p z=true)->l[k]? =some y->p y=false->l.takeWhile p=l.take k
 |[],k,y,_,h,_=>by simp at h
 |a::l,0,y,_,h,u=>by
  simp at h;subst h
  rw[List.takeWhile_cons_of_neg (by simpa using u)];rfl
 |a::l,k+1,y,he,h,u=>by
  rw[atF] at he|-
  rw[List.takeWhile_cons_of_pos (he a ass),Tc (λz J=>he z (ast _ J)) (by simpa using h) u]
theorem Nk{α:Type}{p:α->Bool}:∀{l:List α},(∀z∈l,p z=true)->l.takeWhile p=l
 |[],_=>rfl
 |a::l,he=>by rw[List.takeWhile_cons_of_pos (he a ass),Nk λz u=>he z (ast _ u)]
theorem Td{d:aU}(t:zV d):∀(f:Nat) (r:Int),0<=vX d f r/\vX d f r<=16*f
 |0,_=>⟨asO _,asO _⟩
 |f+1,r=>by
  have u:=Td t f (dB d r.toNat).up
  have z:0<=(dB d r.toNat).bD/\(dB d r.toNat).bD<=16:=by
   cases hk:d.aD[r.toNat]? with
   |none=>
    have:dB d r.toNat=⟨ByteArray.empty,0,0,0,0,0,⟨0,0⟩,⟨0,0⟩,⟨0,0⟩⟩:=by unfold dB;rw[asC,hk];rfl
    rw[this]
    exact⟨asO _,show(0:Int)<=16 from Yd⟩
   |some x=>
    rw[jm hk]
    have:=t.dl _ x hk
    omega
  rw[vX]
  split<;>omega
theorem Nl(h:f<d.aR.length):bL (mW d) f=cG d (jh d f).aZ:=by
 apply cY;unfold mW;rw[as6,asw h];show some _=some _;rw[jJ (asw h)]
theorem xa:(mW d).length=d.aR.length:=by unfold mW;rw[asz]
theorem yK(h0:cH d=0)(f:Nat):0<=bL (mW d) f/\bL (mW d) f<=1024:=by
 by_cases h:f<d.aR.length
 .rw[Nl h];have V:=gY h0;have u:=V.fm f h;have b:=Td (kp h0) ((jh d f).aZ+1).toNat (jh d f).aZ;have:=V.n.2;unfold cG;omega
 .rw[wZ (by rw[xa];omega)];decide
theorem sK{c:Cm}(h:0<=c.aO/\c.aO<d.aR.length):dH d c=c.aH-bL (mW d) c.aO.toNat:=by
 unfold dH Oz;rw[Nl Y]
theorem Te{v:Int}(h:l[k]? =some v):(l.take (k+1)).foldl max 0=max ((l.take k).foldl max 0) v:=by
 rw[asD,h];simp
theorem ano{l:aX}{B:Int}(h:∀v∈l,v<=B):∀(a:Int),0<=a->a<=B->0<=l.foldl max a/\l.foldl max a<=B:=by
 induction l with
 |nil=>intro a h1 u;exact⟨h1,u⟩
 |cons x l z=>
  intro a h1 u;have M:=h x ass;exact z (λv J=>h v (ast _ J)) (max a x) Y Y
theorem acJ(h0:cH d=0):0<=S1 d/\S1 d<=1024:=by
 unfold S1;refine ano (λv u=>?_) 0 Yd Yd;obtain⟨i,hi⟩:=ath u;have:=yK h0 i;rw[cY hi] at this;exact this.2
section
variable {D:Nat->Prop} {w:World} {A:Option Addr} {n c:Nat}
theorem LC{x:Cm}{ws:aX}{b5 b7:Nat}{fin:Int}(h5:aP w b5 37 [aB A n c])(h6:aP w b6 3 [iv aI])(h7:aP w b7 3 [iv fin])(hs:bS cO D w A n ws)(hf:0<=x.aO/\x.aO<n)(hh:0<=x.aH/\x.aH<=4096)(hw:0<=bL ws x.aO.toNat/\bL ws x.aO.toNat<=1024)(hfin:0<=fin/\fin<=8192):aA 165 #[.agg (bM x).toArray,ptr b5,ptr b6,ptr b7] w (.bool (!dS (x.aH-bL ws x.aO.toNat) aI (fin-1))):=by
 apply aF func165 Z;refine box λb4 w1 h1=>?_;have B4:=h1.aS;have x1:=h1.ae;obtain⟨bb,o,cs,y,rfl,hy,-,-,hc,rfl,-⟩:=(hs.ae x1).au (show x.aO.toNat<n from Y);have J:=cY hy;rw[J] at hw|-;refine Zj ?_;refine ld _ ((h7.ae x1).ai U) ?_;refine go ?_;refine P7 (λ_ _=>Cy) (λq=>?_) λq=>?_
 .exact aQ _ U ⟨by rw[q];rfl,x1⟩
 .exact aQ _ U ⟨by rw[q];rfl,x1⟩
theorem LD{y:jd}{u:Nat}(J:aP w u 3 [iv aI]):aA 168 #[.agg y.c.toArray,ptr u] w (.bool (!decide (y.aH<=aI))):=by
 refine aF func168 Z<|box λO M h1=>?_;have V:=h1.aS;refine go<|ld _ ((J.ae h1.ae).ai U)<|cD (λq=>?_) λq=>?_
 .exact aQ _ U ⟨by rw[asG Y];rfl,h1.ae⟩
 .exact aQ _ U ⟨by rw[asE Y];rfl,h1.ae⟩
theorem WC{l:List jd}(h6:aP w b6 3 [iv aI])(hs:bS wI D w A n l):aK prog 167 #[aB A n c,.func (.func 168) #[] #[ptr b6]] w (λv w'=>((v=iv (-1)/\l.takeWhile (λy=>decide (y.aH<=aI))=l)\/∃k:Nat,v=iv (k:Int)/\k<n/\l.takeWhile (λy=>decide (y.aH<=aI))=l.take k)/\ax w w'):=by
 have hn:=hs.an;have hle:=hs.le;refine aF func167 Z ?_;refine an ?_;refine aM (λk:Nat=>[(8,iv (k:Int))]) (λk u=>k<=n/\ax w u/\∀z∈l.take k,decide (z.aH<=aI)=true) (λk _=>n-k) 0 ⟨U,Yt⟩ ⟨Y,.refl _ _,λz hz=>by rw[atg] at hz;cases hz⟩ U ?_;rintro G k u ⟨hk,xw,he⟩;refine cD (λhlt=>?_) λhge=>?_
 .obtain⟨bb,oo,cs,y,rfl,hy,-,-,hc,rfl⟩:=(hs.ae xw).au (show k<n from Y);refine go ?_;refine dt (LD (y:=y) (h6.ae xw)) (λw2 q x2=>?_) λw2 q x2=>?_
  .simp only[atj] at q;exact aQ _ U ⟨.inr ⟨k,U,Y,Tc (p:=λy=>decide (y.aH<=aI)) he hy q⟩,xw.trans x2⟩
  .exact aoo
 .rw[asx Y] at he;exact aQ _ U ⟨.inl ⟨U,Nk he⟩,xw⟩
set_option maxRecDepth 8000 in
set_option maxHeartbeats 2000000 in
theorem Pg{b0:aW}{x:cM}{fin:Int}(hx:iu (λb=>b<w.heap.size) w b0 x)(hw:bS cO (λb=>b<w.heap.size) w A n (mW x.d))(h0:cH x.d=0)(ak:x.eW.length<=12/\x.d.aR.length<=100)(hf:0<=fin/\fin<=4096):aK prog 75 #[.agg b0.toArray,aB A n c,iv aI,iv fin] w (λv w'=>ax w w'/\∃A' n' c',v=.tuple #[aB A' n' c',iv (nP x aI fin)]/\(nP x aI fin=0->bu w w' A' n' c' 65 5 ((Jk x aI fin).flatMap bM))):=by
 obtain⟨cr,G1,m1,e1,G2,m2,e2,G3,m3,e3,G4,m4,e4,G5,m5,e5,G6,m6,e6,G7,m7,e7,G8,m8,e8,rfl,hd,g1,g2,g3,-,-,-,-,-,q3,-⟩:=hx.ex;have hd0:=hd;obtain⟨A1,n1,c1,A2,n2,c2,A3,n3,c3,A4,n4,c4,A5,n5,c5,A6,n6,c6,rfl,cb,bq,-⟩:=hd.ex;have bT:=bq.an;have lw:=hw.an;rw[xa] at lw;have l1:=g1.an;have l3:=g3.an;have hh:=eC h0;have bx:=acJ h0;apply aF func75 Z;refine box λb4 w1 h1=>?_;refine box λb5 w2 h2=>?_;refine box λb6 w3 h3=>?_;refine box λb7 w4 h4=>?_;have t4:=h1.au;have t5:=h2.au;have t6:=h3.au;have t7:=h4.au;have s1:=h1.size;have s2:=h2.size;have s3:=h3.size;have s4:=h4.size;have B4:=h1.aS.ae ((h2.ae.trans h3.ae).trans h4.ae);have B5:=h2.aS.ae (h3.ae.trans h4.ae);have B6:=h3.aS.ae h4.ae;have B7:=h4.aS;refine go ?_;refine fj _ (bF.app (ys:=[iv x.every,aB G1 m1 e1,aB G2 m2 e2,aB G3 m3 e3,aB G4 m4 e4,aB G5 m5 e5,aB G6 m6 e6,aB G7 m7 e7,aB G8 m8 e8]) (.aS B4)).1 U ?_;refine alloc λb10 w5 h5=>?_;refine fg h5.aS λw6 B10 k6 _=>?_;have t10:=h5.au;have s5:=h5.size;have z6:=k6.size;have x46:=h5.ae.ag k6 λb hb _ e=>Y;have x06:=(((h1.ae.trans h2.ae).trans h3.ae).trans h4.ae).trans x46;obtain⟨B4,B5,B6,B7⟩:=Xj x46 B4 B5 B6 B7;refine go ?_;refine aM (λk:Nat=>[(20,iv (k:Int)),(11,iv (((mW x.d).take k).foldl max 0))]) (λk u=>k<=n/\w6=u) (λk _=>n-k) 0 ⟨U,U,Yt⟩ ⟨Y,U⟩ U ?_;rintro G k u ⟨hk,rfl⟩;refine cD (λhlt=>?_) λhge=>?_
 .obtain⟨bb,o,cs,y,rfl,hy,-,-,hc,rfl,-⟩:=(hw.ae x06).au (show k<n from Y);refine go ?_;refine next (k+1) ⟨Yn,?_,Yt⟩ ⟨Y,U⟩ Y;rw[Te hy];rfl
 rw[asx (by rw[xa];omega)];have ef:(mW x.d).foldl max 0=S1 x.d:=U;rw[ef];refine go ?_;have bI:=x06.size;refine aJ (acm (dq:=aI) (to:=tZ x fin) (aN:=aI) ((hd0.ae x06).ar λb _ hb=>Y) ((g1.ae x06).ar Yd λb _ hb=>Y) Y ak.2) ?_;rintro _ w7 ⟨x7,A8,n8,c8,rfl,af⟩;have F0:nP x aI fin=if gZ x.d x.eW aI (tZ x fin) aI≠0 then gZ x.d x.eW aI (tZ x fin) aI else if jB x.d x.done (PG x aI fin) aI≠0 then jB x.d x.done (PG x aI fin) aI else iq x.d (XP x aI fin) (Lq x aI):=U
 obtain⟨er,her⟩:∃er,er=gZ x.d x.eW aI (tZ x fin) aI:=⟨_,U⟩;rw[<-her] at F0 af|-;have be:=x06.trans x7;refine cN (λq=>?_) λq=>?_
 .rw[asp q] at F0;exact ret ⟨be,none,0,0,by rw[F0]<;>rfl,λe0=>absurd (F0.symm.trans e0) q⟩
 have ay:=q;rw[aso (by simpa using ay)] at F0;subst ay;have o8:=af U;have av:jj x.d x.eW aI (tZ x fin) aI=0:=by
  unfold gZ at her;by_cases h:jj x.d x.eW aI (tZ x fin) aI=0
  .exact h
  .rw[asp (by simpa using h)] at her;exact absurd her.symm h
 have hcl:=Vy av;have br:n8<=1000000:=by
  have h1:=o8.own.an;rw[bz (K:=5) λ_=>rfl] at h1;have h2:(zD x.d x.eW aI (tZ x fin) aI).length<=4096:=by
   unfold zD;rw[(cP _).length_eq];unfold gZ at her;rw[aso (by simpa using av)] at her;split at her
   .cases her
   .omega
  omega
 have bo:=λv (V:ax w6 v)=>hw.ae (x06.trans V);have pred:∀(y:Cm) (v:World),y∈zD x.d x.eW aI (tZ x fin) aI->ax w6 v->aA 165 #[.agg (bM y).toArray,ptr b5,ptr b6,ptr b7] v (.bool (!dS (dH x.d y) aI (fin-1))):=λy v hy V=>by obtain⟨-,p2,p3,p4,-⟩:=hcl.1 y hy;rw[sK p2];exact LC (B5.ae V) (B6.ae V) (B7.ae V) (bo v V) Y Y (yK h0 _) Y
 refine aJ (acI (di:=λy=>dS (dH x.d y) aI (fin-1)) o8 br (λy v hy V=>pred y v hy (x7.trans V)) pred) ?_;rintro _ w8 ⟨A9,n9,c9,rfl,o9,cg,k9,-⟩;have o9:bu w6 w8 A9 n9 c9 65 5 ((PG x aI fin).flatMap bM):=o9;have a8:=o9.ae;have O:=x06.trans a8;obtain⟨B4,B6,B10⟩:=P9 a8 B4 B6 B10;have bE:=a8.size;have bG:=O.size;obtain⟨s9,ck⟩:=o9.WB (D:=λb=>b<w8.heap.size) Y λb _ h=>h;refine go<|aJ (O7 (D:=λb=>b<w8.heap.size) ((hd0.ae O).ar λb _ hb=>Y) ((g2.ae O).ar Yd λb _ hb=>Y) s9) ?_;rintro _ w9 ⟨A11,n11,ct,rfl,x9,a6,-⟩;obtain⟨cp,aq⟩:∃er,er=jB x.d x.done (PG x aI fin) aI:=⟨_,U⟩;rw[<-aq] at F0 a6|-;have aa:=O.trans x9;refine cN (λq2=>?_) λq2=>?_
 .rw[asp q2] at F0;exact ret ⟨aa,none,0,0,by rw[F0]<;>rfl,λe0=>absurd (F0.symm.trans e0) q2⟩
 have a7:=q2;rw[aso (by simpa using a7)] at F0;subst a7;obtain⟨bt,bk⟩:=a6 U;obtain⟨B4,B6,B10⟩:=P9 x9 B4 B6 B10;refine go<|aJ (WC B6 (g3.ae aa)) ?_;rintro _ w10 ⟨bp,J⟩;have xE:=aa.trans J;have E4:=B4.ae J;have cw:=B10.ae J;have o12:=bk.ag J;have zE:=xE.size;have bA:=(x9.trans J).size;obtain⟨s12,bw⟩:=o12.WB (D:=λb=>b<w10.heap.size) Y λb _ h=>h;have e3':nP x aI fin=iq x.d (XP x aI fin) (Lq x aI):=F0;rcases bp with⟨rfl,hj⟩|⟨k3,rfl,hk3,hj⟩
 .refine cD (λq=>absurd q Y) λq=>?_;have hkk:m3<=m3:=asN _;have hjd:x.vj.take m3=Lq x aI:=by rw[asx Y];exact hj.symm
  refine apj ?_;refine Km (a:=wI) 0 m3 (g3.ae xE) q3 U rfl Y hkk U λJ3 hJ3=>?_;exact aoe
 .refine cD (λq=>?_) λq=>absurd Y q;have hkk:k3<=m3:=Y;have hjd:=hj.symm;refine apj ?_;refine Km (a:=wI) 0 k3 (g3.ae xE) q3 U rfl Y hkk U λJ3 hJ3=>?_;exact aoe
end
section
variable {D:Nat->Prop} {w:World} {A B:Option Addr} {n c m e:Nat}
set_option maxRecDepth 8000 in
set_option maxHeartbeats 2000000 in
theorem LF{bm:aW}{d:aU}{before cs:List Cm}{aI:Int}(hd:iG (λb=>b<w.heap.size) w bm d)(hB:bS uQ (λb=>b<w.heap.size) w B m before)(hC:bS uQ (λb=>b<w.heap.size) w A n cs)(cg:fV d before)(bb:fV d cs)(cf:∀y∈before,dH d y<aI)(cb:∀y∈cs,aI<=dH d y)(hm:m<=8192)(hn:n<=4096):aK prog 76 #[.agg bm.toArray,aB B m e,aB A n c] w (λv w'=>∃A' n' c',v=aB A' n' c'/\bu w w' A' n' c' 65 5 ((uc d before cs).flatMap bM)):=by
 have c8:=hd;have lB:=hB.an;have lC:=hC.an;obtain⟨A1,n1,c1,A2,n2,c2,A3,n3,c3,A4,n4,c4,A5,n5,c5,A6,n6,c6,rfl,-⟩:=hd.ex;apply aF func76 Z;refine box λb3 w1 h1=>?_;have B3:aP w1 b3 31 [.string d.name,iv d.aG,iv d.cap,iv d.bH,aB A1 n1 c1,aB A2 n2 c2,aB A3 n3 c3,aB A4 n4 c4,aB A5 n5 c5,aB A6 n6 c6]:=h1.aS;apply aJ (pF (hC.ae h1.ae).ann Y);rintro _ w2 ⟨A7,c7,rfl,o7⟩;have b4:=h1.ae.trans o7.ae;refine lit [.func (.func 82) #[] #[],.func (.func 83) #[] #[],.func (.func 84) #[] #[],.func (.func 81) #[] #[]] λgk w3 hq=>?_;have dy:=hq.au;apply aJ Tb;rintro _ w4 ⟨b,rfl,x4,Bb,lb⟩;have b1:=hq.ae.trans x4;have o4:=o7.ag b1;have s3:=hq.size;have bT:fT Ca cs:=Pd bb;refine aJ (R:=λv w5=>v=.tuple #[]/\bu w w5 A7 n c7 65 5 ((il Ca cs).flatMap bM)/\aj (λb=>A7≠aL b) w4 w5) ?_ ?_
 .rcases o4.form with⟨rfl,h0,rfl⟩|⟨g2,rfl,db,cT,cd⟩
  .have bE:cs=[]:=asL Y;subst h0;apply RZ.mono;rintro _ u2 ⟨rfl,rfl⟩;refine⟨U,?_,.refl _ _⟩;rw[bE];exact bu.nil (h1.ae.trans o4.ae)
  .obtain⟨rest,Bg,ay,-⟩:=o4.own.aS;have cI:g2<w2.heap.size:=by
    rcases o7.form with⟨e',-⟩|⟨g3,e',-,h2,-⟩
    .cases e'
    .injection e' with e';injection e' with e';omega
   have KR:CH w4 b 323 199 [.func (.func 82) #[] #[],.func (.func 83) #[] #[],.func (.func 84) #[] #[],.func (.func 81) #[] #[]] g2:=⟨gk,Bb,hq.aS.ae x4,Y,Y⟩;apply(Sh (s:=cs) KR Bg Y Y bT).mono;rintro _ u2 ⟨rfl,Bs,ks⟩;have b5:(il Ca cs).length=n:=by rw[(cP _).length_eq,lC]
   have xF:ax w u2:=(h1.ae.trans o4.ae).ag ks λb hb _ e=>by have:=h1.size;omega
   refine⟨U,⟨jH.iH Bs (by rw[bz (K:=5) λ_=>rfl,b5]) (by rw[asu,bz (K:=5) λ_=>rfl] at ay|-;rw[b5];rw[lC] at ay;exact ay) cd o4.own.cap,xF,λg hg=>by have:=(o4.base h1.ae).new g hg;exact this⟩,ks.cU λb _ hb e=>hb (by rw[e])⟩
 rintro _ w5 ⟨rfl,o5,k5⟩;have e3:=h1.au;have s1:=h1.size;have b2:ax w w5:=o5.ae;have B3:aP w5 b3 31 [.string d.name,iv d.aG,iv d.cap,iv d.bH,aB A1 n1 c1,aB A2 n2 c2,aB A3 n3 c3,aB A4 n4 c4,aB A5 n5 c5,aB A6 n6 c6]:=((B3.ae o7.ae).ae b1).ah k5 (λe=>by have:=o7.new b3 e;omega);obtain⟨S,hS⟩:∃S,S=il Ca cs:=⟨_,U⟩;rw[<-hS] at o5;have dk:S.length=n:=by rw[hS,(cP _).length_eq,lC]
 have bg:fT j7 S:=by rw[hS];exact(yC bb).perm (cP cs).symm
 have cq:∀y∈S,aI<=dH d y:=λy hy=>cb y ((cP cs).mem_iff.1 (hS▸hy));have cp:fT j7 before:=yC cg;apply an;apply uk (λ(s:Nat×List Cm) (A:bZ) (q r:Nat)=>[(21,iv (s.1:Int)),(6,aB A q r)]) (λs A q r u=>s.1<=n/\q=s.2.length/\s.2.Sublist (S.take s.1)/\mL d before s.2 (S.drop s.1)=mL d before [] S/\ax w5 u/\bu w u A q r 65 5 (s.2.flatMap bM)) (λs _ _ _ _=>n-s.1) (0,[]) none 0 0 ⟨U,U,Yt⟩ ⟨atc _,U,.slnil,U,.refl _ _,bu.nil b2⟩ U;rintro G ⟨k,K⟩ A8 q8 r8 u ⟨hk,ab,M,O,xu,o8⟩;have hk:k<=n:=hk;have ab:q8=K.length:=ab;have M:K.Sublist (S.take k):=M;have O:mL d before K (S.drop k)=mL d before [] S:=O;have o8:bu w u A8 q8 r8 65 5 (K.flatMap bM):=o8;have ds:K.length<=4096:=by have:=M.length_le;rw[asF] at this;omega
 refine cD (λb9=>?_) λba=>?_
 .have b9:k<n:=by have:((k:Nat):Int)<n:=b9;omega
  obtain⟨y,hy⟩:=gx S k;have bI:S.drop k=y::S.drop (k+1):=by rw[atB Y];rw[(asr.1 hy).2]
  have b6:S.take (k+1)=S.take k++[y]:=by rw[asD,hy];rfl
  have a6:(K++[y]).Sublist (S.take (k+1)):=by rw[b6];exact M.append_right [y]
  have bk:fT j7 (K++[y]):=avQ (a6.trans (auT _ _)) bg;have bh:∀z∈K++[y],aI<=dH d z:=λz hz=>cq z ((a6.trans (auT _ _)).subset hz);have be:fT j7 (before++(K++[y])):=Wt (d:=d) cp bk λa ha b hb=>by have:=cf a ha;have:=bh b hb;omega
  rcases(o5.ag xu).form with⟨-,h0,-⟩|⟨g7,rfl,dd,cL,cK⟩
  .omega
  obtain⟨rest,ck,df,-⟩:=(o5.ag xu).own.aS;refine go ?_;refine fj (bM y) (cZ (K:=5) (λ_=>rfl) ck hy) U ?_;refine alloc λb8 u1 a1=>?_;refine fg a1.aS λu2 B8 k2 _=>?_;have B8:aP u2 b8 65 (bM y):=B8;have e8:=a1.au;have b0:ax u u2:=a1.ae.ag k2 λb hb _ e=>Y;have x2:=xu.trans b0;have aa:=o8.ag b0;refine wS (λs:bZ×Nat=>[(9,aB s.1 (q8+1) s.2)]) (λs v=>ax u2 v/\bu w v s.1 (q8+1) s.2 65 5 ((K++[y]).flatMap bM)) ?_ ?_
  .refine bR (.take 0 (.take 2 (.alt 1 (oP [3,4] [] [3,4,5]) (oP [3,1,4] [] [3,1,4,5])))) [] (λz=>ax u2 z) mx Z (.refl _ _) ?_;refine go ?_;refine⟨?oa,?ob⟩;case' oa=>
    refine aJ (pF (zs:=K) aa.own.src Y) ?_;rintro _ v1 ⟨Aa,ca,rfl,oa⟩;refine bN oa.ae ?_;refine lit [.agg (bM y).toArray] λgg v2 J=>?_;refine bN (oa.ae.trans J.ae) ?_;have o9:=(oa.base aa.ae).ag J.ae;have a8:=oa.ae.trans J.ae;have sq:Src v2 (aL gg) 1 5 (bM y):=J.src (sz:=5) U;have nq:=(oa.ag J.ae).new
   case' ob=>
    refine lit [.agg (bM y).toArray] λgg v1 J=>?_;refine bN J.ae ?_;refine aJ (pF (zs:=K) (aa.ag J.ae).own.src Y) ?_;rintro _ v2 ⟨Aa,ca,rfl,oa⟩;refine bN (J.ae.trans oa.ae) ?_;have o9:=oa.base (aa.ae.trans J.ae);have a8:=J.ae.trans oa.ae;have sq:Src v2 (aL gg) 1 5 (bM y):=(J.src (sz:=5) U).OC oa.ae;have nq:=(oa.base J.ae).new
   all_goals
    refine iI o9 sq Y λA' c' v3 bx bA dx=>?_;have aE:ax u2 v3:=a8.ag bA λb hb _ e=>by have:=nq b e;omega
    refine bN aE ?_;refine⟨(A',c'),⟨U,Yt⟩,aE,?_⟩;rw[as7,ata,au2,asT];exact bx
  rintro G2 ⟨A9,c9⟩ v ⟨xv,o9⟩;have ao:ax w5 v:=x2.trans xv;have e2:=B3.ae ao;have av:=b2.trans ao;refine go ?_;refine aJ (Dg (c8.ae av)) ?_;rintro _ v1 ⟨e0,rfl,xp,dp⟩;have o9:bu w v A9 (q8+1) c9 65 5 ((K++[y]).flatMap bM):=o9;refine lit [aB B m e,aB A9 (q8+1) c9] λgl v2 a7=>?_;have a8:=xp.trans a7.ae;have b4:=av.trans a8;have W:[before,K++[y]].flatten=before++(K++[y]):=by simp
  have BL:aP v2 gl 58 ([(B,m,e,before.flatMap bM),(A9,q8+1,c9,(K++[y]).flatMap bM)].map sv.v):=a7.aS;refine aJ (vn (ls:=[before,K++[y]]) BL U Y (λs hs=>?_) (by rw[W];simp) (by rw[W];exact be) (by rw[W,asu,asu];simp;omega)) ?_
  .rcases asM.1 hs with rfl|hs
   .exact⟨(hB.ae b4).ann,by show m<=_;omega,lR⟩
   .rw[asP] at hs;subst hs;exact⟨(o9.ag a8).own.src,by show q8+1<=_;omega,lR⟩
  rintro _ v3 ⟨bp,n11,bo,rfl,X⟩;rw[W] at X;have x3:=a8.trans X.ae;have cw:n11<=1000000:=by have h1:=X.own.an;rw[bz (K:=5) λ_=>rfl,(cP _).length_eq,asu,asu] at h1;simp at h1;omega
  obtain⟨br,ct⟩:=X.WB (D:=λb=>b<v3.heap.size) Y λb _ h=>h;have z3:=(av.trans x3).size;refine aJ (Ji ((dp.ae (a7.ae.trans X.ae)).ar λb _ hb=>Y) br) ?_;rintro _ v4 ⟨bq,e4,n12,e1,dO,rfl,b7⟩;have aq:=x3.trans bq;obtain⟨mk,ak⟩:∃mk,mk=vy (ic d) (il j7 (before++(K++[y]))):=⟨_,U⟩;rw[<-ak] at b7|-;have V:mL d before K (S.drop k)=mL d before (if mk=true then K++[y] else K) (S.drop (k+1)):=by rw[bI,mL,<-ak]
  have bw:=(aa.ag xv).ag aq;have bt:=o9.ag aq;have af:=ao.trans aq;cases mk with
  |true=>
   rw[asp U] at V;refine cE (λq=>?_) λq=>absurd (b7 U) q;refine go ?_;exact qN (k+1,K++[y]) A9 (q8+1) c9 ⟨by show iv _=iv _;rw[asA];rfl,U,Yt⟩ ⟨by show k+1<=n;omega,by show q8+1=(K++[y]).length;rw[asu,ab];rfl,a6,V.symm.trans O,af,bt⟩ (by show n-(k+1)<n-k;omega)
  |false=>
   rw[aso (by simp)] at V;refine go ?_;exact qN (k+1,K) A8 q8 r8 ⟨by show iv _=iv _;rw[asA];rfl,U,Yt⟩ ⟨by show k+1<=n;omega,ab,M.trans (by rw[b6];exact List.sublist_append_left _ _),V.symm.trans O,af,bw⟩ (by show n-(k+1)<n-k;omega)
 .have ba:¬((k:Nat):Int)<n:=ba;have bG:k=n:=Y;rw[bG,as8 Y,mL] at O;refine lit [aB A8 q8 r8] λgl v2 a7=>?_;have W:[K].flatten=K:=by simp
  have cr:=avQ (M.trans (auT _ _)) bg;have BL:aP v2 gl 58 ([(A8,q8,r8,K.flatMap bM)].map sv.v):=a7.aS;refine aJ (vn (ls:=[K]) BL U Y (λs hs=>?_) (by rw[W];simp) (by rw[W];exact cr) (by rw[W];omega)) ?_
  .rw[asP] at hs;subst hs;exact⟨(o8.ag a7.ae).own.src,by show q8<=_;omega,lR⟩
  rintro _ v3 ⟨bp,n11,bo,rfl,X⟩;rw[W] at X;refine aQ _ U ⟨bp,n11,bo,U,?_⟩;have:uc d before cs=il j7 K:=by unfold uc;rw[<-hS,<-O]
  rw[this];exact X.base (o8.ae.trans a7.ae)
end
def qH(d:aU):(Int×Int->Int)->List Cm->Int×Int->Int
 |L,[]=>L
 |L,c::l=>qH d (λq=>if q=(dH d c,c.aO) then L q-min c.aC (L q) else L q) l
theorem Nn{d:aU}:∀{l l':List Cm} {L:Int×Int->Int},pJ d L (l++l')=pJ d L l++pJ d (qH d L l) l'
 |[],_,_=>rfl
 |c::l,l',L=>by rw[atC,pJ,pJ,Nn,qH];rfl
theorem Jv{d:aU}:∀{l l':List Cm} {L:Int×Int->Int},qH d L (l++l')=qH d (qH d L l) l'
 |[],_,_=>rfl
 |c::l,l',L=>by rw[atC,qH,qH,Jv]
theorem Tf{d:aU}{B:Int}:∀{l:List Cm} {L:Int×Int->Int},(∀c∈l,0<=c.aC)->(∀q,0<=L q/\L q<=B)->∀q,0<=qH d L l q/\qH d L l q<=B
 |[],_,_,h,q=>h q
 |c::l,L,u,h,q=>by
  rw[qH]
  refine Tf (λy z=>u y (ast _ z)) (λq=>?_) q
  have:=h q
  have:=u c ass
  show 0<=(if q=(dH d c,c.aO) then L q-min c.aC (L q) else L q)/\(if q=(dH d c,c.aO) then L q-min c.aC (L q) else L q)<=B
  split<;>omega
def cn(F:Nat)(L:Nat->Int):aX:=(List.range F).map L
theorem dm{L:Nat->Int}:(cn F L).length=F:=by unfold cn;rw[asz,as3]
theorem lX{L:Nat->Int}(h:f<F):(cn F L)[f]? =some (L f):=by unfold cn;rw[as6,atU h];rfl
theorem iZ{L:Nat->Int}{v:Int}:(cn F L).set f v=cn F (λj=>if j=f then v else L j):=by
 refine atG λi=>?_;rw[auc];by_cases hi:i<F
 .rw[lX hi,lX hi,dm];by_cases e:f=i
  .rw[asp e,asp Y,asp e.symm]
  .rw[aso e,aso λq=>e q.symm]
 .have h1:(cn F L)[i]? =none:=as1 (by rw[dm];omega);have u:(cn F λj=>if j=f then v else L j)[i]? =none:=as1 (by rw[dm];omega);rw[h1,u];split
  .rw[dm,aso Y]
  .rfl
theorem AA:l=cn l.length (bL l):=by
 refine Ng (by rw[dm]) λi hi=>?_;rw[cY (lX hi)]
def slR(r c:Nat->Nat)(F i:Nat):Value:=.slice (some (ad (r i) 0)) F (c i)
def kN(r c:Nat->Nat)(F k N:Nat):aW:=(List.range N).map λi=>if i<k then slR r c F i else .slice none 0 0
theorem fZ:(kN r c F k N).length=N:=by unfold kN;rw[asz,as3]
theorem jC{i:Nat}(h:i<N):(kN r c F k N)[i]? =some (if i<k then slR r c F i else aY):=by unfold kN;rw[as6,atU h];rfl
theorem Dh:kN r c F 0 N=List.replicate N (aY):=by
 refine atG λi=>?_;by_cases h:i<N
 .rw[jC h,aso Y,at7,asp h]
 .rw[as1 (by rw[fZ];omega),as1 (by rw[atz];omega)]
def oX(r:Nat->Nat)(k v:Nat):Nat->Nat:=λi=>if i=k then v else r i
theorem Ph:(kN r c F k N).set k (aB (aL a) F b)=kN (oX r k a) (oX c k b) F (k+1) N:=by
 refine atG λi=>?_;rw[auc];by_cases h:i<N
 .rw[jC h,jC h,fZ];by_cases e:k=i
  .subst e;rw[asp U,asp h,asp Y];unfold slR oX;rw[asp U,asp U]
  .rw[aso e];by_cases q:i<k
   .rw[asp q,asp Y];unfold slR oX;rw[aso Y,aso Y]
   .rw[aso q,aso Y]
 .have h1:(kN r c F k N)[i]? =none:=as1 (by rw[fZ];omega);have u:(kN (oX r k a) (oX c k b) F (k+1) N)[i]? =none:=as1 (by rw[fZ];omega);rw[h1,u];split
  .rw[fZ,aso Y]
  .rfl
theorem Pj(_hk:k<N):(kN r c F N N).set k (aB (aL a) F b)=kN (oX r k a) (oX c k b) F N N:=by
 refine atG λi=>?_;rw[auc];by_cases h:i<N
 .rw[jC h,jC h,fZ,asp h,asp h];by_cases e:k=i
  .subst e;rw[asp U,asp h];unfold slR oX;rw[asp U,asp U]
  .rw[aso e];unfold slR oX;rw[aso λq=>e q.symm,aso λq=>e q.symm]
 .have h1:(kN r c F N N)[i]? =none:=as1 (by rw[fZ];omega);have u:(kN (oX r k a) (oX c k b) F N N)[i]? =none:=as1 (by rw[fZ];omega);rw[h1,u];split
  .rw[fZ,aso Y]
  .rfl
structure fO (u:World) (g F k N lo:Nat) (L:Nat->Nat->Int) (r c:Nat->Nat):Prop where
 aS:aP u g 37 (kN r c F k N)
 row:∀i,i<k->aP u (r i) 3 (cJ (cn F (L i)))/\lo<=r i
 ne:∀i j,i<k->j<k->i≠j->r i≠r j
theorem fO.ah(h:fO u g F k N lo L r c)(z:aj D u v)(M:D g)(J:∀i,i<k->D (r i)):fO v g F k N lo L r c:=⟨h.aS.ah z M,λi hi=>⟨(h.row i hi).1.ah z (J i hi),(h.row i hi).2⟩,h.ne⟩
theorem fO.ae(h:fO u g F k N lo L r c)(z:ax u v):fO v g F k N lo L r c:=h.ah z Yt λ_ _=>Yt
theorem fO.jZ{L':Nat->Nat->Int}(h:fO u g F k N lo L r c)(e:∀i f,i<k->f<F->L i f=L' i f):fO u g F k N lo L' r c:=
 ⟨h.aS,λi hi=>by
  have:cn F (L i)=cn F (L' i):=by
   unfold cn
   exact at1 λf z=>e i f hi (as0.1 z)
  rw[<-this];exact h.row i hi,h.ne⟩
theorem fO.set{i:Nat}{x:Int}(h:fO u g F k N lo L r c)(hi:i<k)(V:r i≠g)(O:aP v (r i) 3 ((cJ (cn F (L i))).set f (iv x)))(M:aj (λb=>b≠r i) u v):fO v g F k N lo (λa b=>if a=i/\b=f then x else L a b) r c:=by
 refine⟨h.aS.ah M λe=>V e.symm,λj J=>⟨?_,(h.row j J).2⟩,h.ne⟩;by_cases e:j=i
 .subst e;rw[ij,iZ] at O;have:(λb=>if j=j/\b=f then x else L j b)=λb=>if b=f then x else L j b:=by
   funext b;by_cases q:b=f
   .rw[asp ⟨U,q⟩,asp q]
   .rw[aso λz=>q z.2,aso q]
  rw[this];exact O
 .have:(λb=>if j=i/\b=f then x else L j b)=L j:=by funext b;rw[aso λq=>e q.1]
  rw[this];exact(h.row j J).1.ah M (h.ne j i J hi e)
theorem fO.push{v0:World}(h:fO u g F k N lo L r c)(x:ax u v0)(X:aP v g 37 ((kN r c F k N).set k (aB (aL a) F b)))(V:aj (λb=>b≠g) v0 v)(Z:aP v a 3 (cJ (cn F (L k))))(z:lo<=a)(M:∀i,i<k->r i≠a)(W:∀i,i<k->r i≠g):fO v g F (k+1) N lo L (oX r k a) (oX c k b):=by
 refine⟨by rw[<-Ph];exact X,λi hi=>?_,λi j hi hj J=>?_⟩
 .unfold oX;by_cases e:i=k
  .rw[asp e,e];exact⟨Z,z⟩
  .rw[aso e];have:=h.row i Y;exact⟨(this.1.ae x).ah V (W i Y),this.2⟩
 .unfold oX;by_cases e:i=k
  .rw[asp e,aso Y];exactλq=>M j Y q.symm
  .rw[aso e];by_cases O:j=k
   .rw[asp O];exact M i Y
   .rw[aso O];exact h.ne i j Y Y J
theorem fO.put{v0:World}{L':Nat->Nat->Int}(h:fO u g F N N lo L r c)(hk:k<N)(x:ax u v0)(Z:aP v g 37 ((kN r c F N N).set k (aB (aL a) F b)))(W:aj (λb=>b≠g) v0 v)(ha:aP v a 3 (cJ (cn F (L' k))))(J:lo<=a)(z:∀i,i<N->r i≠a)(X:∀i,i<N->r i≠g)(hL:∀i f,i<N->i≠k->f<F->L i f=L' i f):fO v g F N N lo L' (oX r k a) (oX c k b):=by
 refine⟨by rw[<-Pj hk];exact Z,λi hi=>?_,λi j hi O M=>?_⟩
 .unfold oX;by_cases e:i=k
  .rw[asp e,e];exact⟨ha,J⟩
  .rw[aso e];have h1:=h.row i hi;have h2:cn F (L i)=cn F (L' i):=by unfold cn;exact at1 λf z=>hL i f hi e (as0.1 z)
   rw[h2] at h1;exact⟨(h1.1.ae x).ah W (X i hi),h1.2⟩
 .unfold oX;by_cases e:i=k
  .rw[asp e,aso Y];exactλq=>z j O q.symm
  .rw[aso e];by_cases V:j=k
   .rw[asp V];exact z i hi
   .rw[aso V];exact h.ne i j hi O M
theorem Jw{d:aU}{q:Int×Int}:∀{l l':List Cm},jP d (l++l') q=jP d l q+jP d l' q
 |[],l'=>by show jP d l' q=0+_;omega
 |c::l,l'=>by rw[atC,jP,jP,Jw];omega
theorem Np{d:aU}{q:Int×Int}:∀{l:List Cm},(∀c∈l,0<=c.aC/\c.aC<=1073741824)->jP d l q<=l.length*1073741824
 |[],_=>by show(0:Int)<=0*1073741824;omega
 |c::l,h=>by
  have h1:=Np (d:=d) (q:=q) (l:=l) λy u=>h y (ast _ u)
  have z:=h c ass
  rw[jP,as2]
  split<;>omega
structure aqX (w0 w:World) (cs:aW) (s:pK):Prop where
 ex:∃A1 n1 c1 A2 n2 c2 A3 n3 c3,cs=[iv s.aI,iv s.aI,iv (s.fin-1),iv s.free,.slice A1 n1 c1,.slice A2 n2 c2,.slice A3 n3 c3,.bool s.short]/\
  bu w0 w A1 n1 c1 65 5 (s.ek.flatMap bM)/\bu w0 w A2 n2 c2 65 5 (s.bJ.flatMap bM)/\bu w0 w A3 n3 c3 3 1 (cJ s.cQ)
section
variable {D:Nat->Prop} {w:World} {A:Option Addr} {n c:Nat}
theorem Pk{x:Cm}{ws:aX}{b5:Nat}(h5:aP w b5 37 [aB A n c])(h6:aP w b6 3 [iv aI])(hs:bS cO D w A n ws)(hf:0<=x.aO/\x.aO<n)(hh:0<=x.aH/\x.aH<=4096)(hw:0<=bL ws x.aO.toNat/\bL ws x.aO.toNat<=1024):aA 72 #[.agg (bM x).toArray,ptr b5,ptr b6] w (.bool (decide (aI<=x.aH-bL ws x.aO.toNat))):=by
 apply aF func72 Z;refine box λb4 w1 h1=>?_;have B4:=h1.aS;have x1:=h1.ae;obtain⟨bb,o,cs,y,rfl,hy,-,-,hc,rfl,-⟩:=(hs.ae x1).au (show x.aO.toNat<n from Y);have J:=cY hy;rw[J] at hw|-;refine Zj ?_;refine cD (λq=>?_) λq=>?_
 .exact aQ (.bool true) U ⟨by rw[asE Y],x1⟩
 .exact aQ (.bool false) U ⟨by rw[asG Y],x1⟩
theorem WD{ws:aX}{b5:Nat}{B:bZ}{e:Nat}{l:List Cm}(h5:aP w b5 37 [aB A n c])(h6:aP w b6 3 [iv aI])(hs:bS cO D w A n ws)(hB:bS uQ D w B m l)(hl:∀x∈l,(0<=x.aO/\x.aO<n)/\0<=x.aH/\x.aH<=4096)(hw:∀f,0<=bL ws f/\bL ws f<=1024):aK prog 161 #[aB B m e,.func (.func 72) #[] #[ptr b5,ptr b6]] w (λv w'=>(∃i:Int,v=iv i/\(i>=0↔l.any (λx=>decide (aI<=x.aH-bL ws x.aO.toNat))=true))/\ax w w'):=by
 have hn:=hB.an;have hle:=hB.le;refine aF func161 Z ?_;refine an ?_;refine aM (λk:Nat=>[(8,iv (k:Int))]) (λk u=>k<=m/\ax w u/\l.any (λx=>decide (aI<=x.aH-bL ws x.aO.toNat))=(l.drop k).any λx=>decide (aI<=x.aH-bL ws x.aO.toNat)) (λk _=>m-k) 0 ⟨U,Yt⟩ ⟨Y,.refl _ _,U⟩ U ?_;rintro G k u ⟨hk,xw,he⟩;refine cD (λhlt=>?_) λhge=>?_
 .obtain⟨bb,oo,cs,y,rfl,hy,hdk,-,hc,rfl⟩:=(hB.ae xw).au (show k<m from Y);have J:=hl y (asq hy);rw[hdk,avG] at he;refine go ?_;refine dt (Pk (x:=y) (h5.ae xw) (h6.ae xw) (hs.ae xw) J.1 J.2 (hw _)) (λw2 q x2=>?_) λw2 q x2=>?_
  .exact aQ _ U ⟨⟨k,U,by rw[he,q];simp⟩,xw.trans x2⟩
  .refine Un ?_;rw[he,q];rfl
 .exact W6
theorem Tg{ws:aX}{M J:Nat}{aI:Int}{B:bZ}{m e:Nat}{l:List Cm}(X:aP w M 37 [aB A n c])(W:aP w J 3 [iv aI])(hs:bS cO D w A n ws)(V:bS uQ D w B m l)(O:∀x∈l,(0<=x.aO/\x.aO<n)/\0<=x.aH/\x.aH<=4096)(hw:∀f,0<=bL ws f/\bL ws f<=1024):aA 71 #[aB B m e,.func (.func 72) #[] #[ptr M,ptr J]] w (.bool (l.any λx=>decide (aI<=x.aH-bL ws x.aO.toNat))):=by
 refine aF func71 Z<|aJ (WD X W hs V O hw) ?_;rintro _ z ⟨⟨i,rfl,hi⟩,u⟩;refine cD (λg=>?_) λg=>?_
 .exact aQ (.bool true) U ⟨by rw[hi.1 g],u⟩
 .refine aQ _ U ⟨?_,u⟩;cases q:l.any λx=>decide (aI<=x.aH-bL ws x.aO.toNat) with
  |true=>exact absurd (hi.2 q) g
  |false=>rfl
end
abbrev D9:aW:=[iv 0,iv 0,iv 0,iv 0,.slice none 0 0,.slice none 0 0,.slice none 0 0,.bool false]
structure Pl (x:cM):Prop where
 p:acE x.d
 eW:x.eW.length<=12
 ev:x.dN.length<=1000
 se:x.kM.length<=1000
 dr:x.dr.length<=12
theorem anp{p:Prop}(b:Bool)(h1:b=true->p)(u:b=false->p):p:=by cases b with|true=>exact h1 rfl|false=>exact u rfl
theorem Nq{i:Nat}(h:l.length<=i):bL l i=0:=by
 unfold bL;rw[asC,as1 h];rfl
section
variable {D:Nat->Prop} {w:World} {A B:Option Addr} {n c m e:Nat}
set_option maxRecDepth 8000 in
set_option maxHeartbeats 4000000 in
theorem Th{lO:aW}{x:cM}{aI free:Int}{before:List Cm}(hx:iu (λb=>b<w.heap.size) w lO x)(hB:bS uQ (λb=>b<w.heap.size) w B m before)(few:Pl x)(hm:m<=8192):aK prog 28 #[.agg lO.toArray,iv aI,iv free,aB B m e] w (λv w'=>ax w w'/\∃cs:aW,v=.tuple #[.agg cs.toArray,iv (eM x aI free before)]/\cs.length=8/\(cs.all λu=>u.oneCell')=true/\(eM x aI free before=0->aqX w w' cs (ra x aI free before)/\nQ x.d (ra x aI free before).bJ aI free (pM x aI))):=by
 obtain⟨sx,G1,m1,e1,G2,m2,e2,G3,m3,e3,G4,m4,e4,G5,m5,e5,G6,m6,e6,G7,m7,e7,G8,m8,e8,rfl,hd,-⟩:=hx.ex;have hd0:=hd;have lB:=hB.an;obtain⟨A1,n1,c1,A2,n2,c2,A3,n3,c3,A4,n4,c4,A5,n5,c5,A6,n6,c6,rfl,ou,oA,-⟩:=hd.ex;have rT:=ou.an;have ec:=oA.an;have fp:=few.p;refine aF func28 Z ?_;refine box λb4 w1 h1=>?_;refine box λb5 w2 h2=>?_;refine alloc λb8 w3 h3=>?_;have t4:=h1.au;have t5:=h2.au;have t8:=h3.au;have s1:=h1.size;have s2:=h2.size;have s3:=h3.size;have x03:=(h1.ae.trans h2.ae).trans h3.ae;have B4:=h1.aS.ae (h2.ae.trans h3.ae);have B5:aP w3 b5 3 [iv aI]:=h2.aS.ae h3.ae;have B8:aP w3 b8 60 D9:=h3.aS;refine go ?_;refine bW (Fq (hx.ae x03) ⟨by have:=fp.r;omega,few.ev,few.se⟩) λw4 x4=>?_;have x04:=x03.trans x4;obtain⟨B4,B5,B8⟩:=P9 x4 B4 B5 B8;obtain⟨er,her⟩:∃er,er=gP x:=⟨_,U⟩;rw[<-her];refine cN (λq=>?_) λq=>?_
 .have ee:eM x aI free before=er:=by unfold eM;rw[<-her,asp q]
  refine go ?_;refine fg B8 λwz C8 kz _=>?_;refine Xc ?_;exact⟨(x04).ag kz λb hb _=>Y,D9,by rw[ee]<;>rfl,U,U,λe0=>absurd ((ee).symm.trans e0) (q)⟩
 have pn:=q;subst pn;have sn:=wW her.symm;have hd00:=sn.d;have hh:=eC hd00;have ev:=sn.ev;have P1:eM x aI free before=if¬((0<=aI/\aI<=x.d.aG-1)/\Int.tmod aI x.every=0/\0<=free/\free<=1099511627776) then 1 else if ez x.d before≠0 then ez x.d before else if before.any (λc=>decide (aI<=dH x.d c)) then 580 else if vy (ic x.d) before=false then 580 else nP x aI (min (aI+x.every) x.d.aG):=by
  unfold eM;rw[<-her,aso (by simp)]
 refine go ?_;refine fj [.string x.d.name,iv x.d.aG,iv x.d.cap,iv x.d.bH,aB A1 n1 c1,aB A2 n2 c2,aB A3 n3 c3,aB A4 n4 c4,aB A5 n5 c5,aB A6 n6 c6] (bF.app (ys:=[iv x.every,aB G1 m1 e1,aB G2 m2 e2,aB G3 m3 e3,aB G4 m4 e4,aB G5 m5 e5,aB G6 m6 e6,aB G7 m7 e7,aB G8 m8 e8]) (.aS B4)).1 U ?_;refine alloc λb10 w5 h5=>?_;refine fg h5.aS λw6 B10 k6 _=>?_;have B10:aP w6 b10 31 [.string x.d.name,iv x.d.aG,iv x.d.cap,iv x.d.bH,aB A1 n1 c1,aB A2 n2 c2,aB A3 n3 c3,aB A4 n4 c4,aB A5 n5 c5,aB A6 n6 c6]:=B10;have t10:=h5.au;have s5:=h5.size;have z4:=x4.size;have z6:=k6.size;have x46:ax w4 w6:=h5.ae.ag k6 λb hb _ e=>Y;have x06:=x04.trans x46;obtain⟨B4,B5,B8⟩:=P9 x46 B4 B5 B8;refine go ?_;refine cR Cy (λp1=>?_) λp1=>?_;rotate_left
 .have ee:eM x aI free before=1:=by rw[P1,asp];intro k;have:dS aI 0 (x.d.aG-1)=true:=bO.2 k.1;rw[this] at p1;cases p1
  exact adp
 have oe:=bO.1 p1;refine go ?_;refine ZJ Y Y ?_;refine cN (λp2=>?_) λp2=>?_
 .have ee:eM x aI free before=1:=by rw[P1,asp];intro k;have:=k.2.1;rw[auR Y] at this;exact p2 this
  exact adp
 have oc:Int.tmod aI x.every=0:=by rw[auR Y];exact p2
 refine cR Cy (λp3=>?_) λp3=>?_;rotate_left
 .have ee:eM x aI free before=1:=by rw[P1,asp];intro k;have:dS free 0 1099511627776=true:=bO.2 k.2.2;rw[this] at p3;cases p3
  exact adp
 have o4:=bO.1 p3;rw[aso λk=>k ⟨oe,oc,o4⟩] at P1;refine go ?_;refine bW (tu (hd0.ae x06) (hB.ae x06)) λw7 x7=>?_;have eL:=x06.trans x7;obtain⟨B4,B5,B8,B10⟩:=Xj x7 B4 B5 B8 B10;obtain⟨lN,hF⟩:∃er,er=ez x.d before:=⟨_,U⟩;rw[<-hF] at P1|-;refine cN (λq2=>?_) λq2=>?_
 .have ee:eM x aI free before=lN:=by rw[P1,asp q2]
  refine go ?_;refine fg B8 λwz C8 kz _=>?_;refine Xc ?_;exact⟨(eL).ag kz λb hb _=>Y,D9,by rw[ee]<;>rfl,U,U,λe0=>absurd ((ee).symm.trans e0) (q2)⟩
 have lI:lN=0:=q2;subst lI;rw[aso (by simp)] at P1;obtain⟨-,-,j3⟩:=iB.1 hF.symm;have ei:=eF j3;refine go ?_;refine aJ (Ta (hd0.ae eL) hd00) ?_;rintro _ w8 ⟨A7,n7,c7,rfl,hn7,o7⟩;refine alloc λga w9 h9=>?_;refine st1 h9.aS U λw10 af kB=>?_;have t11:=h9.au;have s9:=h9.size;have z8:=o7.ae.size;have r7:=kB.size;have r8:=eL.size;have z46:=x46.size;have z7:=x7.size;have gm:ax w8 w10:=h9.ae.ag kB λb hb _ e=>Y;have gn:=o7.ae.trans gm;have eb:=eL.trans gn;have o7:=o7.ag gm;obtain⟨B4,B5,B8,B10⟩:=Xj gn B4 B5 B8 B10;have hwI:∀v∈mW x.d,jt v:=λv hv=>by obtain⟨i,hi⟩:=ath hv;have:=yK hd00 i;rw[cY hi] at this;unfold jt;omega
 have sw:bS cO (λb=>b<w10.heap.size) w10 A7 n7 (mW x.d):=Y4
 refine dt (Tg af B5 sw ((hB.ae eb).ar Yd λb _ hb=>by have:=eb.size;omega) (λy hy=>by have:=ei y hy;omega) (yK hd00)) (λnt q3 ew=>?_) λnt q3 ew=>?_;all_goals
  obtain⟨B4,B5,B8,B10,af⟩:=Pz ew B4 B5 B8 B10 af;have dO:=eb.trans ew;have hG:before.any (λc=>decide (aI<=dH x.d c))=before.any λy=>decide (aI<=y.aH-bL (mW x.d) y.aO.toNat):=by
   rw[awA,auY,auY];constructor
   .rintro⟨y,hy,h⟩;rw[sK (ei y hy).1] at h;exact⟨y,hy,h⟩
   .rintro⟨y,hy,h⟩;rw[<-sK (ei y hy).1] at h;exact⟨y,hy,h⟩
  rw[hG,q3] at P1
 .have ee:eM x aI free before=580:=by rw[P1,asp U]
  refine go ?_;refine fg B8 λwz C8 kz _=>?_;refine ret<|da _ (bU (bF.aS C8) U)<|⟨(dO).ag kz λb hb _=>Y,D9,by rw[ee]<;>rfl,U,U,λe0=>absurd ((ee).symm.trans e0) Yd⟩
 rw[aso (by simp)] at P1;have oG:∀y∈before,dH x.d y<aI:=λy hy=>by rw[<-hG,List.any_eq_false] at q3;have:=q3 y hy;rw[asy] at this;omega
 refine fj _ (.aS B10) U<|aJ (Dg (hd0.ae dO)) ?_;rintro _ rE ⟨su,rfl,x12,dp⟩;have dy:=dO.trans x12;have qg:=dy.size;refine aJ (Ji (dp.ar λb _ hb=>Y) ((hB.ae dy).ar Yd λb _ hb=>Y)) ?_;rintro _ rp ⟨x13,sO,n12,sA,sq,rfl,hmk⟩;have dd:=x12.trans x13;have bp:=dy.trans x13;obtain⟨B4,B5,B8,B10,af⟩:=Pz dd B4 B5 B8 B10 af;obtain⟨mk,hC⟩:∃mk,mk=vy (ic x.d) before:=⟨_,U⟩;rw[<-hC] at hmk P1|-;cases mk with
 |false=>
  have ee:eM x aI free before=580:=by rw[P1,asp U]
  refine fj _ (.aS B8) U<|jR (vs:=D9) B8 U Yl Ys λwz C8 kz _=>?_;refine Xc ?_;exact⟨(bp).ag kz λb hb _=>Y,D9,by rw[ee]<;>rfl,U,U,λe0=>absurd ((ee).symm.trans e0) Yd⟩
 |true=>
 refine cN (λq=>absurd (hmk U) q) λq=>?_;rw[aso (by simp)] at P1;obtain⟨fin,hfin⟩:∃fin,fin=min (aI+x.every) x.d.aG:=⟨_,U⟩;refine go ?_;have bE:=ew.trans dd;have nl:=bE.size;have qe:=bp.size;rw[<-hfin] at P1|-;refine aJ (Pg (aI:=aI) (fin:=fin) ((hx.ae bp).ar λb _ hb=>Y) ((sw.ae bE).ar Yd λb _ hb=>Y) hd00 ⟨few.eW,by have:=fp.f;omega⟩ Y) ?_;rintro _ eS ⟨et,bk,n13,bw,rfl,gr⟩;have b0:=bp.trans et;obtain⟨B4,B5,B8,B10,af⟩:=Pz et B4 B5 B8 B10 af;obtain⟨sh,eh⟩:∃er,er=nP x aI fin:=⟨_,U⟩;rw[<-eh] at P1 gr|-;refine cN (λq3=>?_) λq3=>?_
 .have ee:=P1;refine fj _ (.aS B8) U<|jR (vs:=D9) B8 U Yl Ys λwz C8 kz _=>?_;refine ret<|da _ (bU (bF.aS C8) U)<|⟨(b0).ag kz λb hb _=>Y,D9,by rw[ee]<;>rfl,U,U,λe0=>absurd ((ee).symm.trans e0) (q3)⟩
 have lG:=q3;subst lG;have o13:=gr U;obtain⟨j5,lC⟩:=Nf eh.symm;have r6:=et.size;have qd:=b0.size;have lu:n13<=4096:=by have h1:=o13.own.an;rw[bz (K:=5) λ_=>rfl] at h1;have:=(nn.1 (wX eh.symm).2.2).2.2.1;have:(Jk x aI fin).length<=4096:=this;omega
 obtain⟨nz,qj⟩:=o13.WB (D:=λb=>b<eS.heap.size) Y λb _ h=>h;obtain⟨S,hS⟩:∃S,S=uc x.d before (Jk x aI fin):=⟨_,U⟩;have hI:fV x.d S:=by rw[hS];exact Ay j5
 have ll:∀y∈S,aI<=dH x.d y/\dH x.d y<=fin-1:=λy hy=>lC y (Db (hS▸hy));have C:Conv x.d S:=by rw[hS];exact Pe hd00 hC.symm j3 j5
 have ej:=eF hI;have aq:∀y∈S,0<=y.aC/\y.aC<=1073741824:=λy hy=>by have:=hI.1 y hy;have:=this.2.2.2.1;omega
 have oO:S.length<=4096:=by rw[hS,tD.length_eq];have h1:=(Av (d:=x.d) (before:=before) (c:=Jk x aI fin)).length_le;rw[(cP _).length_eq] at h1;omega
 refine bR (oP [10,12] [] [0,1,2,3,4,5,6,7,8,9,10,11,12]) [] (λz=>aj (λb=>b≠b8) eS z) mx Z (.refl _ _)<|fu _ (B5.ai U) (show b5≠b8 from Y) (.refl _ _)<|fu _ (B5.ai U) (show b5≠b8 from Y) (.refl _ _)<|eD (n:=fin-1) Y<|hY [iv aI,iv (fin-1)] Z<|tM _ (.aS B10) U (show b10≠b8 from Y) (.refl _ _)<|aJ (LF (aI:=aI) ((hd0.ae b0).ar λb _ hb=>Y) ((hB.ae b0).ar Yd λb _ hb=>Y) nz j3 j5 oG (λy hy=>(lC y hy).1) hm lu) ?_;rintro _ ns ⟨ak,n14,av,rfl,o14⟩;rw[<-hS] at o14;have qi:n14=S.length:=by have:=o14.own.an;exact Ec
 refine bN (ax.any o14.ae)<|hY [iv aI,iv aI,iv (fin-1),iv free,aB bk n13 bw,aB ak n14 av,aY,.bool false] Z<|jR (vs:=[iv aI,iv aI,iv (fin-1),iv free,aB bk n13 bw,aB ak n14 av,aY,.bool false]) (B8.ae o14.ae) U Yl Ys λhP B8 ef _=>?_;have B8:aP hP b8 60 [iv aI,iv aI,iv (fin-1),iv free,aB bk n13 bw,aB ak n14 av,aY,.bool false]:=B8;refine bN ((ax.any o14.ae).trans ef) ?_;have r5:=o14.ae.size;have r4:=ef.size;have bI:aj (λb=>b≠b8) eS hP:=(ax.any o14.ae).trans ef;have B4:=B4.ah bI Y;have B5:=B5.ah bI Y;have B10:=B10.ah bI Y;have af:=af.ah bI Y;obtain⟨N,hN⟩:∃N,N=pM x aI:=⟨_,U⟩;have ff:fin-aI=(N:Int):=by
  have h1:pM x aI=(fin-aI).toNat:=by rw[hfin];rfl
  rw[hN,h1];omega
 have hL:N<=64:=Y;refine ld (iv aI) (B5.ai U)<|eD (n:=fin-aI) Y<|i7 (sz:=1) (zv:=aY) N ff ff Y Y U Yd λg17 w17 ep=>ld (iv aI) ((B5.ae ep.ae).ai U)<|eD (n:=fin-aI) Y<|i7 (sz:=1) (zv:=iv 0) N ff ff Y Y U Yd λg18 J eo=>?_;have t17:=ep.au;have t18:=eo.au;have rS:=ep.size;have hQ:=eo.size;have aa:=ep.ae.trans eo.ae;obtain⟨B4,B5,B8,B10,af⟩:=Pz aa B4 B5 B8 B10 af;have dx:ax w hP:=b0.ag bI λb hb _ e=>Y;have gp:=dx.trans aa;have qa:aP J g17 37 (kN (λ_=>0) (λ_=>0) n2 0 N):=by
  have h:aP w17 g17 37 ((List.replicate N (cz (aY))).flatten):=ep.aS;rw[show cz (aY)=[aY] from U] at h;rw[Dh];have e':(List.replicate N [Value.slice none 0 0]).flatten=List.replicate N (aY):=by simp
  rw[e'] at h;exact h.ae eo.ae
 have a6:aP J g18 3 (cJ (cn N λi=>if i<0 then bL (lT x.d S (aI+i)) 0 else 0)):=by
  have h:aP J g18 3 ((List.replicate N (cz (iv 0))).flatten):=eo.aS;rw[show cz (iv 0)=[iv 0] from U] at h;have e':(List.replicate N [iv 0]).flatten=cJ (cn N λi=>if i<0 then bL (lT x.d S (aI+i)) 0 else 0):=by
   have e1:(List.replicate N [iv 0]).flatten=List.replicate N (iv 0):=by simp
   have e2:cn N (λi=>if i<0 then bL (lT x.d S (aI+i)) 0 else 0)=List.replicate N 0:=by unfold cn;exact LR
   exact Nz
  rw[e'] at h;exact h
 have kb:bS uQ (λb=>b<J.heap.size/\b≠g17/\b≠g18/\b≠b8) J ak n14 S:=by obtain⟨s,-⟩:=o14.WB (D:=λb=>eS.heap.size<=b/\b<ns.heap.size) Y λb h h'=>⟨h,h'⟩;exact((s.ah ef λb _ h=>Y).ae aa).ar Yd λb _ h=>Y
 have sw:bS cO (λb=>b<J.heap.size/\b≠g17/\b≠g18/\b≠b8) J A7 n7 (mW x.d):=by
  have h1:bS cO (λb=>w7.heap.size<=b/\b<w10.heap.size) w10 A7 n7 (mW x.d):=Y4
  have df:=bE.trans et;have:=df.size;exact(((h1.ae df).ah bI λb hb h=>Y).ae aa).ar Yd λb hb h=>Y
 have kn:bu w J bk n13 bw 65 5 ((Jk x aI fin).flatMap bM):=((o13.base bp).bY bI (λg hg e=>by have:=o13.new g hg;omega) dx).ag aa;have kl:bu w J ak n14 av 65 5 (S.flatMap bM):=((o14.base b0).bY ef (λg hg e=>by have:=o14.new g hg;omega) dx).ag aa;have d13:∀g,bk=aL g->g<J.heap.size/\g≠g17/\g≠g18/\g≠b8:=λg hg=>by
  have h1:=o13.new g hg;rcases o13.form with⟨e',-⟩|⟨g',e',-,h2,-⟩
  .rw[e'] at hg;cases hg
  .exact LP
 have d14:∀g,ak=aL g->g<J.heap.size/\g≠g17/\g≠g18/\g≠b8:=λg hg=>by
  have h1:=o14.new g hg;rcases o14.form with⟨e',-⟩|⟨g',e',-,h2,-⟩
  .rw[e'] at hg;cases hg
  .exact LP
 have ni:=gp.size;have d4:b4<J.heap.size/\b4≠g17/\b4≠g18/\b4≠b8:=Y;have d5:b5<J.heap.size/\b5≠g17/\b5≠g18/\b5≠b8:=Y;have d10:b10<J.heap.size/\b10≠g17/\b10≠g18/\b10≠b8:=Y;have d11:ga<J.heap.size/\ga≠g17/\ga≠g18/\ga≠b8:=Y;have cp:∀u,aj (λb=>b<J.heap.size/\b≠g17/\b≠g18/\b≠b8) J u->ax w u:=λu ku=>gp.ag ku λb hb _=>Y;refine an<|aM (λk:Nat=>[(132,iv (k:Int))]) (λk u=>k<=N/\aj (λb=>b≠g17) J u/\∃r c,fO u g17 n2 k N J.heap.size (λ_ _=>0) r c) (λk _=>N-k) 0 ⟨U,Yt⟩ ⟨Y,.refl _ _,_,_,⟨qa,λi hi=>Y,λi j hi=>Y⟩⟩ U ?_;rintro Ga k u ⟨hk,ku,r,c,R⟩;refine cD (λhlt=>?_) λhge=>?_
 .have zu:=ku.size;have hg:∀i,i<k->r i≠g17:=λi hi=>by have:=(R.row i hi).2;omega
  refine bC<|ld (aB A2 n2 c2) ((B10.ah ku Y).ai U)<|an<|i7 (sz:=1) (zv:=iv 0) n2 U rfl (by have:=fp.f;omega) (by have:=fp.f;omega) U Yd λa u1 ha=>?_;have ta:=ha.au;have Ra:=R.aS.ae ha.ae;refine idx k U Y<|st Ra (by rw[fZ];omega) U λu2 hb2 k2 z2=>?_;rw[show 0+k*1=k from Y] at hb2;have hz:aP u2 a 3 (cJ (cn n2 λ_=>0)):=by
   have h:aP u1 a 3 ((List.replicate n2 (cz (iv 0))).flatten):=ha.aS;rw[show cz (iv 0)=[iv 0] from U] at h;have e':(List.replicate n2 [iv 0]).flatten=cJ (cn n2 λ_=>0):=by
    have e1:(List.replicate n2 [iv 0]).flatten=List.replicate n2 (iv 0):=by simp
    have e2:cn n2 (λ_=>(0:Int))=List.replicate n2 0:=by unfold cn;exact LR
    exact Nz
   rw[e'] at h;exact h.ah k2 Y
  refine eD (n:=(k:Int)+1) Y<|next (k+1) ⟨Yn,Yt⟩ ⟨Y,(ku.ae ha.ae).trans k2,_,_,R.push ha.ae hb2 k2 hz Y (λi hi=>?_) hg⟩ Y;have:=(R.row i hi).1.lt;omega
 obtain rfl:N=k:=Y;have j1:∀(r':Nat->Nat),(∀i,i<N->J.heap.size<=r' i)->∀i,i<N->r' i≠g17/\r' i≠g18/\r' i≠b8:=λr' h i hi=>by have:=h i hi;omega
 have KU:aj (λb=>b<J.heap.size/\b≠g17/\b≠g18/\b≠b8) J u:=ku.cU λb _ h=>h.2.1;have B8:=B8.ah ku Y;have a6:=a6.ah ku Y;have lo:=λi hi=>(R.row i hi).2;have R:fO u g17 n2 N N J.heap.size (λi f=>jP x.d (S.take 0) (aI+i,(f:Int))) r c:=R.jZ λi f _ _=>by rw[atg];rfl
 refine bC<|ld (aB ak n14 av) (B8.ai U)<|an ?_;have br:=j1 r lo;refine aM (λk:Nat=>[(146,iv (k:Int))]) (λk v=>k<=n14/\aj (λb=>b<u.heap.size/\∀i,i<N->b≠r i) u v/\fO v g17 n2 N N J.heap.size (λi f=>jP x.d (S.take k) (aI+i,(f:Int))) r c) (λk _=>n14-k) 0 ⟨U,Yt⟩ ⟨Y,.refl _ _,R⟩ U ?_;rintro Gb k v ⟨hk2,kv,R⟩;have KV:aj (λb=>b<J.heap.size/\b≠g17/\b≠g18/\b≠b8) J v:=KU.ag kv λb hb h=>⟨by have:=ku.size;omega,λi hi e=>by have:=lo i hi;omega⟩;refine cD (λhlt=>?_) λhge2=>?_
 .obtain⟨sb,so,nw,y,ck,hy,-,-,j2,rfl⟩:=(kb.ah KV λb _ h=>h).au (show k<n14 from Y);subst ck;have bG:=asq hy;have hV:=ej y bG;have hyl:=aq y bG;have om:=ll y bG;have htk:S.take (k+1)=S.take k++[y]:=by rw[asD,hy];rfl
  obtain⟨wi,oq⟩:∃i:Nat,i=(dH x.d y-aI).toNat:=⟨_,U⟩;have O:wi<N:=Y;obtain⟨fi,hfi⟩:∃f:Nat,f=y.aO.toNat:=⟨_,U⟩;have be:fi<n2:=Y;refine idx k U Y<|fj (bM y) j2 U<|alloc λq9 v1 a1=>jR (vs:=bM y) a1.aS U Yl Ys λv2 cT k2 _=>?_;have cT:aP v2 q9 65 (bM y):=cT;have sm:=a1.au;have a7:ax v v2:=a1.ae.ag k2 λb hb _ e=>Y;have R2:=R.ae a7;obtain⟨wb,wo,nr,wy,j4,hW,-,-,hZ,rfl,-⟩:=((sw.ah KV λb _ h=>h).ae a7).au (show fi<n7 from Y);subst j4;have eg:bL (mW x.d) fi=wy:=cY hW;have kG:dH x.d y=y.aH-wy:=by rw[sK hV.1,<-hfi,eg]
  have ib:=yK hd00 fi;rw[eg] at ib;have gi:=(af.ah KV d11).ae a7;have C5:=(B5.ah KV d5).ae a7;have RB:=(R2.row wi O).1;obtain⟨L0,en⟩:∃L0,L0=jP x.d (S.take k) (aI+wi,(fi:Int)):=⟨_,U⟩;have pe:0<=L0/\L0<=4096*1073741824:=by have h1:=Dc (d:=x.d) (q:=(aI+wi,(fi:Int))) (l:=S.take k) λz hz=>(aq z (asW hz)).1;have h2:=Np (d:=x.d) (q:=(aI+wi,(fi:Int))) (l:=S.take k) λz hz=>aq z (asW hz);rw[asF] at h2;omega
  have fe:(cJ (cn n2 λf:Nat=>jP x.d (S.take k) (aI+(wi:Nat),(f:Int))))[0+fi*1]? =some (iv L0):=by rw[as9,aua];unfold cJ;rw[as6,lX be,en];rfl
  refine bR (oP [21] [21] [0,1,2,3,4,5,6,7,8,9,10,11,12,13,14,15,16,17,18,19,20,21]) [21] (λz=>z=v2) mx Z U<|bC<|ld (iv y.aH) (cT.ai U)<|ld (aB (some (ad wb wo)) n7 c7) (gi.ai U)<|bC<|ld (iv y.aO) (cT.ai U)<|idx fi Y Y<|ld (iv wy) (hZ 0 _ U)<|eD (n:=y.aH-wy) Y<|ld (iv aI) (C5.ai U)<|eD (n:=y.aH-wy-aI) Y<|idx wi Y O<|ld (aB (some (ad (r wi) 0)) n2 (c wi)) (R2.aS.ai (by rw[as9,aua,jC O,asp O];rfl))<|bC<|ld (iv y.aO) (cT.ai U)<|idx fi Y be<|ld (iv L0) (RB.ai fe)<|bC<|ld (iv y.aC) (cT.ai U)<|eD (n:=L0+y.aC) Y<|idx fi Y be<|gv (λ_=>True) Yt<|st RB (by unfold cJ;rw[asz,dm];omega) U λv3 hb3 k3 z3=>?_;rw[show 0+fi*1=fi from Y] at hb3;refine bN Yt<|eD (n:=(k:Int)+1) Y<|next (k+1) ⟨Yn,Yt⟩ ⟨Y,(kv.ag a7 λ_ _ _=>Yt).ag k3 λb hb h=>h.2 wi O,(R2.set O (br wi O).1 hb3 k3).jZ λa b ha hb=>?_⟩ Y;rw[htk,Jw];have eT:vk x.d y=(aI+(wi:Int),(fi:Int)):=by unfold vk;rw[atm];omega
  have e1:jP x.d [y] (aI+(a:Int),(b:Int))=if a=wi/\b=fi then y.aC else 0:=by
   show(if vk x.d y=_ then y.aC else 0)+0=_;rw[eT];by_cases e':a=wi/\b=fi
   .rw[asp e',e'.1,e'.2,asp U,atJ]
   .rw[aso e',aso λq=>e' (by rw[atm] at q;omega)];rfl
  rw[e1];by_cases e':a=wi/\b=fi
  .rw[asp e',asp e',en,e'.1,e'.2]
  .rw[aso e',aso e',atJ]
 have hkn:k=n14:=Y;rw[hkn,asx Y] at R;have R:fO v g17 n2 N N J.heap.size (λi f=>bL (dI x.d S (aI+i)) f) r c:=R.jZ λi f _ hf=>(wY (λz hz=>(ej z hz).1.1) Y).symm;have zv:=kv.size;have zu:=ku.size;have nL:∀i,i<N->r i<v.heap.size:=λi hi=>(R.row i hi).1.lt;have B8:=B8.ah kv ⟨Y,λi hi e=>(br i hi).2.2 e.symm⟩;have a6:=a6.ah kv ⟨Y,λi hi e=>(br i hi).2.1 e.symm⟩;obtain⟨nd,hnd⟩:∃nd:Nat->Int,nd=λi:Nat=>bL (lT x.d S (aI+i)) 0:=⟨_,U⟩;have gF:∀i,0<=nd i/\nd i<=1073741824:=λi=>by rw[hnd];exact Jp C hd00 _ _
 have a6:aP v g18 3 (cJ (cn N λi=>if i<0 then nd i else 0)):=by rw[hnd];exact a6
 have c8:∀i,cn n2 (λf=>bL (dI x.d S (aI+(i:Nat))) f)=dI x.d S (aI+i):=λi=>by
  have h:(dI x.d S (aI+i)).length=n2:=by unfold dI;rw[ik,ec]
  have:=AA (l:=dI x.d S (aI+i));rw[h] at this;exact this.symm
 refine an<|aM (λk:Nat=>[(174,iv (k:Int)),(19,iv (jW nd k))]) (λk q=>k<=N/\aj (λb=>b<v.heap.size/\b≠g18) v q/\aP q g18 3 (cJ (cn N λi=>if i<k then nd i else 0))) (λk _=>N-k) 0 ⟨U,U,Yt⟩ ⟨Y,.refl _ _,a6⟩ U ?_;rintro Gc k3 q ⟨hk3,kq,a6⟩;have KQ:aj (λb=>b<J.heap.size/\b≠g17/\b≠g18/\b≠b8) J q:=KV.ag kq λb hb h=>⟨Y,h.2.2.1⟩;have Rq:=R.ah kq Y λi hi=>⟨nL i hi,(br i hi).2.1⟩;refine cD (λhlt=>?_) λqq=>?_
 .have bt:k3<N:=Y;refine idx k3 U bt<|ld (aB (some (ad (r k3) 0)) n2 (c k3)) (Rq.aS.ai (by rw[as9,aua,jC bt,asp bt];rfl)) ?_;have bq:=(Rq.row k3 bt).1;rw[c8] at bq;have bT:bS cO (λ_=>True) q (some (ad (r k3) 0)) n2 (dI x.d S (aI+k3)):=jL (rest:=[]) (by rw[asT];exact bq) (by unfold dI;rw[ik,ec]) (λz hz=>by have:=C.PE _ z hz;unfold jt;omega) (by have:=fp.f;omega) Yt;refine fj [.string x.d.name,iv x.d.aG,iv x.d.cap,iv x.d.bH,aB A1 n1 c1,aB A2 n2 c2,aB A3 n3 c3,aB A4 n4 c4,aB A5 n5 c5,aB A6 n6 c6] (.aS (B10.ah KQ d10)) U<|aJ (Ic (D:=λ_=>True) ((hd0.ae (cp _ KQ)).ar λ_ _ _=>Yt) bT) ?_;have fW:=C.div hd00 (aI+k3);have kr:=C.sB (aI+k3);rintro _ q1 ⟨hM,⟨hne,-⟩|⟨-,hne,-⟩|⟨-,hs,bh,hne,rfl,sd,Bh⟩⟩
  .exact absurd fW hne
  .rw[kr] at hne;cases hne
  rw[kr] at hne;injection hne with hne;subst hne;have sg:0<n1:=by have:=(gY hd00).n.1;omega
  have hlen:(lT x.d S (aI+k3)).length=x.d.aD.length:=(C.rdy hd00 _).lh;have lA:(cJ (lT x.d S (aI+k3)))[0]? =some (iv (nd k3)):=by
   have e:nd k3=(lT x.d S (aI+k3))[0]'(by rw[hlen];omega):=by rw[hnd];exact cY (asw (by rw[hlen];omega))
   unfold cJ;rw[as6,asw (by rw[hlen];omega),e];rfl
  have hb3:=gF k3;have s6:=Qf (n:=k3) λi _=>gF i;have r3:=hM.size;refine idx 0 U Y<|ld (iv (nd k3)) (Bh.ai lA)<|idx k3 U bt<|st (a6.ae hM) (by unfold cJ;rw[asz,dm];omega) U λq2 hb2 k2 z2=>?_;rw[show 0+k3*1=k3 from Y] at hb2;have hb2:aP q2 g18 3 ((cJ (cn N λi=>if i<k3 then nd i else 0)).set k3 (iv (nd k3))):=hb2;rw[ij,iZ] at hb2;have Bh:=Bh.ah k2 (by have:=a6.lt;omega);refine idx 0 U Y<|ld (iv (nd k3)) (Bh.ai lA)<|eD (n:=jW nd k3+nd k3) Y<|eD (n:=(k3:Int)+1) Y<|next (k3+1) ⟨Yn,U,Yt⟩ ⟨Y,(kq.ag hM λ_ _ _=>Yt).ag k2 λb hb h=>h.2,?_⟩ Y;have e':(λj=>if j=k3 then nd k3 else if j<k3 then nd j else 0)=λj=>if j<k3+1 then nd j else 0:=by
   funext j;by_cases e1:j=k3
   .rw[asp e1,asp Y,e1]
   .rw[aso e1];by_cases e2:j<k3
    .rw[asp e2,asp Y]
    .rw[aso e2,aso Y]
  rw[<-e'];exact hb2
 have hk3:k3=N:=Y;rw[hk3] at a6|-;have p0:cn N (λi=>if i<N then nd i else 0)=bV x.d S aI N:=by refine Ng (by rw[dm,eN]) λi hi=>?_;rw[dm] at hi;rw[cY (lX hi),yD hi,asp hi,hnd]
 rw[p0] at a6;have j0:jW nd N=aV (bV x.d S aI N):=by have h:=Fk (l:=bV x.d S aI N);rw[eN] at h;rw[<-h];exact pW λi hi=>by rw[yD hi,hnd]
 rw[j0];have B8:=B8.ah kq ⟨B8.lt,Y⟩;obtain⟨bs,fa⟩:∃b,b=decide (free<aV (bV x.d S aI N)):=⟨_,U⟩;refine cB bs (by rw[fa])<|bC<|st B8 (by simp) U λv0 B8 k0 z0=>?_;have B8:aP v0 b8 60 [iv aI,iv aI,iv (fin-1),iv free,aB bk n13 bw,aB ak n14 av,aY,.bool bs]:=B8;have K0:aj (λb=>b<J.heap.size/\b≠g17/\b≠g18/\b≠b8) J v0:=KQ.ag k0 λb hb h=>h.2.2.2;have R0:=Rq.ah k0 Y λi hi=>(br i hi).2.2;have a6:=a6.ah k0 Y;refine bC<|ld (.bool bs) (B8.ai U) ?_;have hp:ra x aI free before=⟨aI,fin,free,Jk x aI fin,S,pJ x.d (sF aI (iD x.d S aI N free)) S,bs⟩:=by rw[fa,hS,hN,hfin];rfl
 have oS:N=pM x aI:=hN;refine anp bs (λhb=>?ct) λhb=>?cf;case' ct=>
  subst hb;have hsh:free<aV (bV x.d S aI N):=att fa.symm;have te:=yE (aI:=aI) (free:=free) C hd00 hL Y hsh;have jo:bS cO (λ_=>True) v0 (aL g18) N (bV x.d S aI N):=jL (rest:=[]) (by rw[asT];exact a6) eN.symm (λz hz=>by have:=tF C hd00 z hz;unfold jt;omega) Y Yt;refine aJ (Ey jo te) ?_;rintro _ v1 ⟨mk1,sL,n18,sy,lS,rfl,hQ,-,db,oj⟩;rw[eN] at oj;have hmk:=Lr lS;have l0:dX free (bV x.d S aI N) (mkF free (bV x.d S aI N)):=by rw[hmk];exact lS
  have hE:∀i,i<N->0<=bL (zG free (bV x.d S aI N)) i/\bL (zG free (bV x.d S aI N)) i<=1073741824:=λi hi=>by have h1:=(l0.PA te).b i (by rw[eN];exact hi);have h2:=jK (tF (aI:=aI) (n:=N) C hd00) i;have h3:=Lz (E:=free) (l:=bV x.d S aI N) (i:=i) (by rw[eN];exact hi);rw[<-h3] at h1;omega
  have j8:g17<v0.heap.size:=R0.aS.lt;have ha:NX mk1 (bV x.d S aI N)=zG free (bV x.d S aI N):=by unfold zG;rw[hmk]
  rw[ha] at hQ;have qR:=db.size;have nf:=K0.size;refine an<|aM (λk:Nat=>[(212,iv (k:Int))]) (λk u=>k<=N/\aj (λb=>b<v1.heap.size/\b≠g17) v1 u/\(∀i,i<k->Jl x.d (dI x.d S (aI+(i:Nat))) (bL (zG free (bV x.d S aI N)) i) (sE x.d (dI x.d S (aI+(i:Nat))) (bL (zG free (bV x.d S aI N)) i)))/\∃r c,fO u g17 n2 N N J.heap.size (λi f=>bL (if i<k then(sE x.d (dI x.d S (aI+(i:Nat))) (bL (zG free (bV x.d S aI N)) i)).2.1 else dI x.d S (aI+(i:Nat))) f) r c) (λk _=>N-k) 0 ⟨U,Yt⟩ ⟨Y,.refl _ _,λi hi=>Y,_,_,(R0.ae db).jZ λi f _ _=>by rw[aso Y]⟩ U ?_;rintro Gd k v0 ⟨sa,cI,HD,r,c,R4⟩;have gb:aj (λb=>b<J.heap.size/\b≠g17/\b≠g18/\b≠b8) J v0:=(K0.ag db λ_ _ _=>Yt).ag cI λb hb h=>⟨Y,h.2.1⟩;have cK:=(B8.ae db).ah cI ⟨by have:=B8.lt;omega,Y⟩;have qE:=(a6.ae db).ah cI ⟨by have:=a6.lt;omega,Y⟩;refine cD (λhlt=>?_) λqn=>?_
  .have bg:k<N:=Y;obtain⟨E,fs⟩:∃E,E=bL (zG free (bV x.d S aI N)) k:=⟨_,U⟩;have lq:=hE k bg;rw[<-fs] at lq;have qS:=cI.size;obtain⟨ab,ao,sC,ay,lr,oL,-,-,hac,rfl,-⟩:=(hQ.ah cI λb h h'=>⟨h,by have:=j8;omega⟩).au (show k<n18 from Y);subst lr;have lf:ay=E:=by rw[fs,cY oL]
   have bq:=(R4.row k bg).1;rw[show cn n2 (λf=>bL (if k<k then(sE x.d (dI x.d S (aI+(k:Nat))) (bL (zG free (bV x.d S aI N)) k)).2.1 else dI x.d S (aI+(k:Nat))) f)=dI x.d S (aI+k) by rw[aso Y];exact c8 k] at bq;have bT:bS cO (λ_=>True) v0 (some (ad (r k) 0)) n2 (dI x.d S (aI+k)):=jL (rest:=[]) (by rw[asT];exact bq) (by unfold dI;rw[ik,ec]) (λz hz=>by have:=C.PE _ z hz;unfold jt;omega) (by have:=fp.f;omega) Yt;refine idx k U bg<|ld (aB (some (ad (r k) 0)) n2 (c k)) (R4.aS.ai (by rw[as9,aua,jC bg,asp bg];rfl)) ?_;have nc:=B10.ah gb d10;have fW:mP x.d (dI x.d S (aI+k)) E=0:=Ij.2 ⟨qp.2 ⟨C.div hd00 _,_,C.sB _⟩,Y⟩;refine wS (λs:Nat=>[(30,ptr s)]) (λs z=>ax v0 z/\∃H nh ch ba cg M nm cm,aP z s 140 [aB H nh ch,aB (aL ba) n2 cg,aB M nm cm]/\aP z ba 3 (cJ (sE x.d (dI x.d S (aI+k)) E).2.1)/\Jl x.d (dI x.d S (aI+k)) E (sE x.d (dI x.d S (aI+k)) E)/\v0.heap.size<=ba) ?_ ?_
   .refine bR (.take 0 (.take 1 (.take 2 (.take 3 (.take 4 (.take 5 (.alt 6 (oP [10,11] [] [7,8,9,10,11,12]) (oP [10,6,11] [] [10,6,7,8,9,11,12])))))))) [] (λz=>ax v0 z) mx Z (.refl _ _)<|tM [.string x.d.name,iv x.d.aG,iv x.d.cap,iv x.d.bH,aB A1 n1 c1,aB A2 n2 c2,aB A3 n3 c3,aB A4 n4 c4,aB A5 n5 c5,aB A6 n6 c6] (.aS nc) U Yt (.refl _ _)<|idx k U Y<|fu (iv ay) (hac 0 _ U) Yt (.refl _ _) ?_;rw[lf];refine⟨?oa,?ob⟩;case' oa=>
     refine aJ (KC (E:=E) (D:=λ_=>True) ((hd0.ae (cp _ gb)).ar λ_ _ _=>Yt) bT) ?_;rintro _ z1 ⟨H,nh,ch,G,ng,cg,M,nm,cm,rfl,bo,cr⟩;refine bN bo<|alloc λbx z2 a8=>bN (bo.trans a8.ae) ?_;obtain⟨oy,kW,ox,hs,hd,aw,mk,bh,ba,bm,q1,q2,q3,-,-,rfl,rfl,rfl,-,q4,-,-,q5,-⟩:=cr.ok fW;have pr:=a8.au;have kj:=a8.aS;have hne:ba≠bx:=by have:=q4.lt;omega
     have q4:=q4.ae a8.ae;have xz:ax v0 z2:=bo.trans a8.ae;have oi:v0.heap.size<=bx:=by have:=bo.size;omega
    case' ob=>
     refine alloc λbx z1 a8=>bN a8.ae<|aJ (KC (E:=E) (D:=λ_=>True) ((hd0.ae ((cp _ gb).trans a8.ae)).ar λ_ _ _=>Yt) (bT.ae a8.ae)) ?_;rintro _ z2 ⟨H,nh,ch,G,ng,cg,M,nm,cm,rfl,bo,cr⟩;refine bN (a8.ae.trans bo) ?_;obtain⟨oy,kW,ox,hs,hd,aw,mk,bh,ba,bm,q1,q2,q3,-,-,rfl,rfl,rfl,-,q4,-,-,q5,-⟩:=cr.ok fW;have pr:=a8.au;have rR:=a8.size;have kj:=a8.aS.ae bo;have hne:ba≠bx:=Y;have q5:v0.heap.size<=ba:=Y;have xz:ax v0 z2:=a8.ae.trans bo;have oi:v0.heap.size<=bx:=Y
    all_goals
     refine fg kj λz3 gd k3 _=>?_;have gd:aP z3 bx 140 [aB (aL bh) nh ch,aB (aL ba) ng cg,aB (aL bm) nm cm]:=gd;have jb:ax v0 z3:=xz.ag k3 λb hb _=>Y;refine bN jb ?_;rw[kW,ec] at gd;have l8:=Au q1 q2 q3 lq.1;refine⟨bx,⟨U,Yt⟩,jb,_,_,_,_,_,_,_,_,gd,?_,?_,q5⟩
     .rw[l8];exact q4.ah k3 hne
     .rw[l8];exact⟨hs,q1,q2,q3⟩
   rintro Ge bx z ⟨xz,H,nh,ch,ba,cg,M,nm,cm,qc,Ba,hdiv,qs⟩;have R5:=R4.ae xz;have hrl:∀i,i<N->r i<v0.heap.size:=λi hi=>(R4.row i hi).1.lt;have l4:∀i,i<N->r i≠g17:=λi hi=>(j1 r (λi hi=>(R4.row i hi).2) i hi).1;refine bC<|ld (aB (aL ba) n2 cg) (qc.ai U)<|idx k U bg<|st R5.aS (by rw[fZ];omega) U λz2 hb2 k2 _=>?_;rw[show 0+k*1=k from Y] at hb2;have kc:cn n2 (bL (sE x.d (dI x.d S (aI+(k:Nat))) E).2.1)=(sE x.d (dI x.d S (aI+(k:Nat))) E).2.1:=by obtain⟨hs,-,-,V⟩:=hdiv;have:=AA (l:=(sE x.d (dI x.d S (aI+(k:Nat))) E).2.1);rw[V.la,ec] at this;exact this.symm
   refine eD (n:=(k:Int)+1) Y<|next (k+1) ⟨Yn,Yt⟩ ⟨Y,(cI.ag xz λ_ _ _=>Yt).ag k2 λb hb h=>h.2,λi hi=>?_,_,_,R5.put (a:=ba) (b:=cg) bg (.refl _ _) hb2 k2 (L':=λi f=>bL (if i<k+1 then(sE x.d (dI x.d S (aI+(i:Nat))) (bL (zG free (bV x.d S aI N)) i)).2.1 else dI x.d S (aI+(i:Nat))) f) ?_ Y (λi hi=>by have:=hrl i hi;omega) l4 λi f hi sc hf=>?_⟩ Y
   .by_cases e:i=k
    .rw[e,<-fs];exact hdiv
    .exact HD i Y
   .simp only[asp (Nat.lt_succ_self k)];rw[<-fs,kc];exact Ba.ah k2 Y
   .by_cases e:i<k
    .rw[asp e,asp Y]
    .rw[aso e,aso Y]
  have bg:N=k:=Y;subst bg;have DV:nQ x.d S aI free N:=⟨λ_=>l0,λ_ i hi=>HD i hi⟩;have R0:fO v0 g17 n2 N N J.heap.size (λi f=>sF aI (iD x.d S aI N free) (aI+(i:Nat),(f:Nat))) r c:=R4.jZ λi f hi _=>by show _=bL ((iD x.d S aI N free).getD (aI+(i:Int)-aI).toNat []) ((f:Int)).toNat;rw[show(aI+(i:Int)-aI).toNat=i from Y,Az hi,asp hsh,asp hi];rfl
  have K0:=gb;have B8:=cK
 case' cf=>
  subst hb;have hsh:¬free<aV (bV x.d S aI N):=avz fa.symm;have DV:nQ x.d S aI free N:=⟨λq=>absurd q hsh,λq=>absurd q hsh⟩;have R0:fO v0 g17 n2 N N J.heap.size (λi f=>sF aI (iD x.d S aI N free) (aI+(i:Nat),(f:Nat))) r c:=R0.jZ λi f hi _=>by show _=bL ((iD x.d S aI N free).getD (aI+(i:Int)-aI).toNat []) ((f:Int)).toNat;rw[show(aI+(i:Int)-aI).toNat=i from Y,Az hi,aso hsh];rfl
 all_goals
  obtain⟨L0,en⟩:∃L0,L0=sF aI (iD x.d S aI N free):=⟨_,U⟩;rw[<-en] at R0 hp;have lp:∀q,0<=L0 q/\L0 q<=1073741824:=λq=>by
   rw[en];show 0<=bL ((iD x.d S aI N free).getD (q.1-aI).toNat []) q.2.toNat/\bL ((iD x.d S aI N free).getD (q.1-aI).toNat []) q.2.toNat<=1073741824;by_cases hi:(q.1-aI).toNat<N
   .obtain⟨hl,hb',-⟩:=DV.row C hd00 hL Y hi;by_cases hf:q.2.toNat<x.d.aR.length
    .have h1:=hb' _ hf;have h2:=jK (C.PE (aI+((q.1-aI).toNat:Nat))) q.2.toNat;have h2:bL (dI x.d S (aI+((q.1-aI).toNat:Nat))) q.2.toNat<=1073741824:=h2.2;omega
    .rw[Nq Y];omega
   .have e:(iD x.d S aI N free).getD (q.1-aI).toNat []=[]:=by rw[asC,as1 (by rw[Fm];omega)];rfl
    rw[e,Ww];omega
  have nf:=K0.size;have gq:∀i,i<N->r i<v0.heap.size:=λi hi=>(R0.row i hi).1.lt;have hT:∀i,i<N->J.heap.size<=r i:=λi hi=>(R0.row i hi).2;have cb:=j1 r hT;have qB:b8<J.heap.size:=Y;refine bC<|ld (aB ak n14 av) (B8.ai U)<|an ?_;refine aM (λs:Nat=>[(236,iv (s:Int))]) (λk u=>k<=n14/\aj (λb=>b<v0.heap.size/\b≠b8/\∀i,i<N->b≠r i) v0 u/\fO u g17 n2 N N J.heap.size (λi f=>qH x.d L0 (S.take k) (aI+(i:Nat),(f:Nat))) r c/\∃Aw cw,aP u b8 60 [iv aI,iv aI,iv (fin-1),iv free,aB bk n13 bw,aB ak n14 av,aB Aw k cw,.bool _]/\bu w u Aw k cw 3 1 (cJ (pJ x.d L0 (S.take k)))/\∀g,Aw=aL g->v0.heap.size<=g) (λk _=>n14-k) 0 ⟨U,Yt⟩ ⟨Y,.refl _ _,by rw[atg];exact R0,none,0,B8,.nil (cp _ K0),λg hg=>by cases hg⟩ U ?_;rintro Gf k u ⟨s8,ku,R,Aw,cw,cK,ow,fU⟩;have bA:aj (λb=>b<J.heap.size/\b≠g17/\b≠g18/\b≠b8) J u:=K0.ag ku λb hb h=>⟨Y,h.2.2.2,λi hi e=>by have:=hT i hi;omega⟩;refine cD (λhlt=>?_) λql=>?_
  .obtain⟨sb,so,nw,y,ck,hy,-,-,j2,rfl⟩:=(kb.ah bA λb _ h=>h).au (show k<n14 from Y);have bG:=asq hy;have hV:=ej y bG;have hyl:=aq y bG;have om:=ll y bG;have htk:S.take (k+1)=S.take k++[y]:=by rw[asD,hy];rfl
   obtain⟨wi,oq⟩:∃i:Nat,i=(dH x.d y-aI).toNat:=⟨_,U⟩;have O:wi<N:=Y;obtain⟨fi,hfi⟩:∃f:Nat,f=y.aO.toNat:=⟨_,U⟩;have be:fi<n2:=Y;rw[ck];refine idx k U Y<|fj (bM y) j2 U<|alloc λq8 v1 a1=>jR (vs:=bM y) a1.aS U Yl Ys λv2 cL k2 _=>?_;have cL:aP v2 q8 65 (bM y):=cL;have sk:=a1.au;have a7:ax u v2:=a1.ae.ag k2 λb hb _ e=>Y;have R2:=R.ae a7;obtain⟨wb,wo,nr,wy,j4,hW,-,-,hZ,rfl,-⟩:=((sw.ah bA λb _ h=>h).ae a7).au (show fi<n7 from Y);have eg:bL (mW x.d) fi=wy:=cY hW;have kG:dH x.d y=y.aH-wy:=by rw[sK hV.1,<-hfi,eg]
   have ib:=yK hd00 fi;rw[eg] at ib;have gi:=(af.ah bA d11).ae a7;have C5:=(B5.ah bA d5).ae a7;rw[j4] at gi;have RB:=(R2.row wi O).1;obtain⟨Lc,fh⟩:∃L,L=qH x.d L0 (S.take k) (aI+wi,(fi:Int)):=⟨_,U⟩;have pe:0<=Lc/\Lc<=1073741824:=by rw[fh];exact Tf (λz hz=>(aq z (asW hz)).1) lp _
   have fe:(cJ (cn n2 λf:Nat=>qH x.d L0 (S.take k) (aI+(wi:Nat),(f:Int))))[0+fi*1]? =some (iv Lc):=by rw[as9,aua];unfold cJ;rw[as6,lX be,fh];rfl
   have eT:(dH x.d y,y.aO)=(aI+(wi:Int),(fi:Int)):=by rw[atm];omega
   have s7:0<=min y.aC Lc/\min y.aC Lc<=Lc:=Y;refine uo mx Z<|bC<|ld (iv y.aH) (cL.ai U)<|ld (aB (some (ad wb wo)) n7 c7) (gi.ai U)<|bC<|ld (iv y.aO) (cL.ai U)<|idx fi Y Y<|ld (iv wy) (hZ 0 _ U)<|eD (n:=y.aH-wy) Y<|ld (iv aI) (C5.ai U)<|eD (n:=y.aH-wy-aI) Y<|idx wi Y O<|ld (aB (some (ad (r wi) 0)) n2 (c wi)) (R2.aS.ai (by rw[as9,aua,jC O,asp O];rfl))<|bC<|ld (iv y.aO) (cL.ai U)<|idx fi Y be<|uo mx Z<|bC<|ld (iv y.aC) (cL.ai U)<|ld (iv Lc) (RB.ai fe)<|ld (iv Lc) (RB.ai fe)<|eD (n:=Lc-min y.aC Lc) Y<|st RB (by unfold cJ;rw[asz,dm];omega) U λv3 hb3 k3 z3=>?_;rw[show 0+fi*1=fi from Y] at hb3;have R3:=R2.set O (cb wi O).1 hb3 k3;have mo:=(cK.ae a7).ah k3 λe=>(cb wi O).2.2 e.symm;have np:ax w v3:=((cp _ bA).trans a7).ag k3 λb hb _ e=>by have:=hT wi O;omega
   have o3:=(ow.ag a7).bY k3 (λg hg e=>by have:=fU g hg;have:=gq wi O;omega) np;refine bC<|ld (aB Aw k cw) (mo.ai U)<|lit [iv (min y.aC Lc)] λgg v4 hq=>iI (o3.ag hq.ae) (hq.src (sz:=1) U) Y λA' c' v5 o5 k5 pf=>?_;have zu:=ku.size;have qL:=a7.size;have rL:=hq.size;have rI:=hq.au;have hA8:∀g,A'=aL g->v0.heap.size<=g:=λg hg=>by
    rcases pf with e|e|e
    .exact fU g (e.symm.trans hg)
    .rw[e] at hg;cases hg
    .rw[e] at hg;injection hg with hg;injection hg with hg;have:=k3.size;omega
   have kA:∀b,b<v0.heap.size->Aw≠aL b:=λb hb e=>by have:=fU b e;omega
   have R5:=(R3.ae hq.ae).ah k5 (kA _ (by have:=R0.aS.lt;omega)) λi hi=>kA _ (gq i hi);refine bC<|st ((mo.ae hq.ae).ah k5 (kA _ Y)) (by simp) U λv6 gl k6 z6=>?_;have gl:aP v6 b8 60 [iv aI,iv aI,iv (fin-1),iv free,aB bk n13 bw,aB ak n14 av,aB A' (k+1) c',.bool _]:=gl;rw[ck] at gl;refine go ?_;have x6:ax w v6:=o5.ae.ag k6 λb hb _ e=>Y;refine next (k+1) ⟨Yn,Yt⟩ ⟨Y,?_,(R5.ah k6 (λe=>by have:=cb wi O;omega) λi hi=>(cb i hi).2.2).jZ λa b ha hb=>?_,A',c',gl,?_,hA8⟩ Y
   .exact((((ku.ag a7 λ_ _ _=>Yt).ag k3 λb hb h=>h.2.2 wi O).ag hq.ae λ_ _ _=>Yt).ag k5 λb hb h=>kA b h.1).ag k6 λb hb h=>h.2.1
   .rw[htk,Jv];show _=if(aI+(a:Int),(b:Int))=(dH x.d y,y.aO) then qH x.d L0 (S.take k) (aI+(a:Int),(b:Int))-min y.aC (qH x.d L0 (S.take k) (aI+(a:Int),(b:Int))) else qH x.d L0 (S.take k) (aI+(a:Int),(b:Int))
    rw[eT];by_cases e':a=wi/\b=fi
    .rw[asp e',e'.1,e'.2,asp U,fh]
    .rw[aso e',aso λq=>e' (by rw[atm] at q;omega)]
   .rw[htk,Nn];have e1:pJ x.d (qH x.d L0 (S.take k)) [y]=[min y.aC Lc]:=by show [min y.aC (qH x.d L0 (S.take k) (dH x.d y,y.aO))]=_;rw[eT,fh]
    rw[e1];have:=o5.bY k6 (λg hg e=>by have:=hA8 g hg;omega) x6;unfold cJ at this|-;rw[asK];exact this
  have l3:k=n14:=Y;rw[l3] at cK ow;rw[asx Y] at ow;have x8:=cp _ bA;refine fj _ (.aS cK) U<|jR (vs:=_) cK U Yl Ys λwz C8 kz _=>ret<|da _ (bU (bF.aS C8) U) ?_;have xz:ax w wz:=x8.ag kz λb hb _=>Y;refine⟨xz,_,by rw[P1]<;>rfl,U,U,λ_=>?_⟩;rw[hp];refine⟨⟨bk,n13,bw,ak,n14,av,Aw,n14,cw,U,?_,?_,?_⟩,by rw[<-oS];exact DV⟩
  .exact kn.bY (bA.ag kz λb _ h=>h.2.2.2) d13 xz
  .exact kl.bY (bA.ag kz λb _ h=>h.2.2.2) d14 xz
  .exact ow.bY kz (λg hg e=>by have:=fU g hg;omega) xz
end
section
variable {D:Nat->Prop} {w:World} {A:Option Addr} {n c:Nat}
theorem Nr{lo hi t:Int}(h1:0<=lo/\lo<=hi/\hi<=1099511627776)(u:0<=t/\t<=1000):aA 26 #[iv lo,iv hi,iv t] w (iv (Nc lo hi t)):=by
 apply aF func26 Z;have m1:0<=(hi-lo)*t:=atq Y u.1;have m2:(hi-lo)*t<=(hi-lo)*1000:=atd u.2 Y;refine go ?_;refine vL Yd m1 Y ?_;have M:0<=(hi-lo)*t/1000:=aue m1 Yd;have J:(hi-lo)*t/1000<=hi-lo:=Y;refine eD (n:=Nc lo hi t) (by unfold Nc;omega)<|aQ _ U ⟨U,.refl _ _⟩
theorem Ns(h:bS cO D w A n l)(J:∀v∈l,0<=v/\v<=1073741824)(hn:n<=65536):aA 32 #[aB A n c] w (iv (aV l)):=by
 have hl:=h.an;apply aF func32 Z;apply an;apply aM (λk:Nat=>[(7,iv (k:Int)),(2,iv (aV (l.take k)))]) (λk u=>k<=n/\u=w) (λk _=>n-k) 0 ⟨U,U,Yt⟩ ⟨Y,U⟩ U;rintro G k u ⟨hk,rfl⟩;refine cD (λW=>?_) λX=>?_
 .obtain⟨bb,o,cs,y,rfl,z,-,-,hc,rfl,-⟩:=h.au (show k<n from Y);have V:aV (l.take (k+1))=aV (l.take k)+y:=by rw[asD,z];exact fD
  have b1:=jl (l:=l.take k) λv O=>J v (asW O);rw[asF] at b1;have b2:=J y (asq z);refine go ?_;exact next (k+1) ⟨Yn,by rw[V];rfl,Yt⟩ ⟨Y,U⟩ Y
 .rw[asx Y];exact aQ _ U ⟨U,.refl _ _⟩
theorem pO(hN:N<=4096)(hF:F<=4096):aK prog 24 #[iv (N:Int),iv (F:Int)] w (λv w'=>∃g r c,v=aB (aL g) N N/\ax w w'/\w.heap.size<=g/\(∀i,i<N->r i≠g)/\fO w' g F N N w.heap.size (λ_ _=>0) r c/\∀i,i<N->c i=F):=by
 apply aF func24 Z;refine i7 (sz:=1) (zv:=aY) N U rfl Y Y U Yd λg w1 h1=>?_;have t1:=h1.au;have s1:=h1.size;have G1:aP w1 g 37 (kN (λ_=>0) (λ_=>0) F 0 N):=by
  have h:=h1.aS;rw[show cz (aY)=[aY] from U] at h;rw[Dh];have e':(List.replicate N [Value.slice none 0 0]).flatten=List.replicate N (aY):=by simp
  rw[e'] at h;exact h
 apply an;apply aM (λk:Nat=>[(11,iv (k:Int)),(5,aB (aL g) N N)]) (λk u=>k<=N/\aj (λb=>b≠g) w1 u/\∃r c,fO u g F k N w1.heap.size (λ_ _=>0) r c/\∀i,i<k->c i=F) (λk _=>N-k) 0 ⟨U,U,Yt⟩ ⟨Y,.refl _ _,λ_=>0,λ_=>0,⟨G1,λi hi=>Y,λi j hi=>Y⟩,λi hi=>Y⟩ U;rintro Ga k u ⟨hk,ku,r,c,R,J⟩;have zu:=ku.size;refine cD (λhlt=>?_) λhge=>?_
 .have hg:∀i,i<k->r i≠g:=λi hi=>by have:=(R.row i hi).2;omega
  refine i7 (sz:=1) (zv:=iv 0) F U rfl Y Y U Yd λa u1 ha=>?_;have V:=ha.au;have O:=R.aS.ae ha.ae;apply idx k U Y;refine st O (by rw[fZ];omega) U λu2 hb2 k2 z2=>?_;rw[show 0+k*1=k from Y] at hb2;have hz:aP u2 a 3 (cJ (cn F λ_=>0)):=by
   have h:=ha.aS;rw[show cz (iv 0)=[iv 0] from U] at h;have e':(List.replicate F [iv 0]).flatten=cJ (cn F λ_=>0):=by
    have e1:(List.replicate F [iv 0]).flatten=List.replicate F (iv 0):=by simp
    have e2:cn F (λ_=>(0:Int))=List.replicate F 0:=by unfold cn;exact LR
    exact Nz
   rw[e'] at h;exact h.ah k2 Y
  refine go ?_;refine next (k+1) ⟨Yn,U,Yt⟩ ⟨Y,(ku.ae ha.ae).trans k2,_,_,R.push ha.ae hb2 k2 hz Y (λi hi=>?_) hg,λi hi=>?_⟩ Y
  .have:=(R.row i hi).1.lt;omega
  .unfold oX;by_cases e:i=k
   .rw[asp e]
   .rw[aso e];exact J i Y
 .obtain rfl:N=k:=Y;refine aQ _ U ⟨g,r,c,U,h1.ae.ag ku λb hb _=>Y,Y,λi hi=>by have:=(R.row i hi).2;omega,⟨R.aS,λi hi=>⟨(R.row i hi).1,by have:=(R.row i hi).2;omega⟩,R.ne⟩,J⟩
theorem LG{u:aW}{x:cM}(J:iu D w u x):aK prog 27 #[.agg u.toArray] w (λv z=>∃b,v=.func (.func 68) #[] #[ptr b]/\ax w z/\aP z b 42 u/\w.heap.size<=b):=by
 obtain⟨M,G1,m1,e1,G2,m2,e2,G3,m3,e3,G4,m4,e4,G5,m5,e5,G6,m6,e6,G7,m7,e7,G8,m8,e8,rfl,hd,-⟩:=J.ex;obtain⟨A1,n1,c1,A2,n2,c2,A3,X,c3,A4,W,c4,A5,V,c5,A6,n6,c6,rfl,-⟩:=hd.ex;refine aF func27 Z<|box λb O h1=>?_;have t1:=h1.au;exact ret ⟨b,U,h1.ae,h1.aS,Y⟩
theorem Jx{R:World->Prop}{M:aW}{x:cM}{l:Nat}(J:Nat->World->Prop)(hB:aP w b 42 M)(hx:iu (λ_=>True) w M x)(sn:Nd x)(hJ:∀k u,J k u->aP u b 42 M)(z:∀(k:Nat) (u:World),(k:Int)*x.every<x.d.aG->J k u->iQ prog l #[iv (k*x.every),iv (min (k*x.every+x.every) x.d.aG)] (λv V=>(v=.bool true/\J (k+1) V)\/(v=.bool false/\R V)) u)(hj:J 0 w):aK prog 68 #[.func (.yield l) #[] #[],ptr b] w (λ_ V=>J (fz x) V\/R V):=by
 obtain⟨aa,G1,m1,e1,G2,m2,e2,G3,m3,e3,G4,m4,e4,G5,m5,e5,G6,m6,e6,G7,m7,e7,G8,m8,e8,rfl,hd,-⟩:=hx.ex;obtain⟨A1,n1,c1,A2,n2,c2,A3,n3,c3,A4,n4,c4,A5,n5,c5,A6,n6,c6,rfl,-⟩:=hd.ex;have hh:=eC sn.d;have ev:=sn.ev;refine aF func68 Z<|aM (λk:Nat=>[(3,iv ((k:Int)*x.every))]) (λk u=>J k u/\(k=0\/((k-1:Nat):Int)*x.every<x.d.aG)) (λk _=>(x.d.aG-k*x.every).toNat) 0 ⟨by show iv 0=iv _;rw[Int.natCast_zero,awt],Yt⟩ ⟨hj,.inl U⟩ U ?_;rintro G k u ⟨hk,O⟩;have hb:=hJ k u hk;have a6:0<=(k:Int)*x.every:=atq Y Y;have X:((k+1:Nat):Int)*x.every=k*x.every+x.every:=by rw[asA,atX];omega
 have a1:(k:Int)*x.every<=x.d.aG+x.every:=by
  rcases O with rfl|O
  .omega
  .rcases atD k with rfl|h0
   .omega
   .obtain⟨j,rfl⟩:∃j,k=j+1:=⟨k-1,Y⟩;rw[auK] at O;rw[asA,atX];omega
 refine go ?_;refine cD (λW=>?_) λa7=>?_
 .refine go ?_;refine eA (z k u W hk) ?_;rintro _ u2 (⟨rfl,h2⟩|⟨rfl,h2⟩)
  .have a8:=hJ _ _ h2;refine go ?_;exact next (k+1) ⟨by rw[X];rfl,Yt⟩ ⟨h2,.inr (by rw[auK];exact W)⟩ (by rw[X];omega)
  .exact ret (.inr h2)
 .refine ret (.inl ?_);have e:fz x=k:=by
   unfold fz;have h1:(x.d.aG+x.every-1)/x.every=k:=by
    rcases O with rfl|O
    .omega
    .rcases atD k with rfl|h0
     .omega
     .obtain⟨j,rfl⟩:∃j,k=j+1:=⟨k-1,Y⟩;rw[auK] at O;have e1:((j+1:Nat):Int)*x.every=j*x.every+x.every:=by rw[asA,atX];omega
      refine Int.le_antisymm ?_ ?_
      .refine Int.le_of_lt_add_one ((Int.ediv_lt_iff_lt_mul Y).2 ?_);rw[atX];omega
      .refine(avF Y).2 ?_;omega
   rw[h1];omega
  rw[e];exact hk
end
theorem Jy{e h:Int}:∀{l:List eV} {last:Int},sD e h last l=true->∀y∈l,((y.bounds.length:Int)-1)*e<h
 |[],_,_,_,u=>by cases u
 |a::l,last,z,y,u=>by
  rw[sD] at z
  simp only[asv,asy] at z
  rcases asM.1 u with rfl|u
  .exact z.2.1
  .exact Jy z.2.2 y u
theorem pP{aG most:Int}:lD aG most l=true↔(l.length:Int)=aG/\∀v∈l,0<=v/\v<=most:=by
 unfold lD;rw[asv,asy,asH];exact and_congr_right λ_=>forall_congr' λv=>forall_congr' λ_=>bO
section
variable {D:Nat->Prop} {w:World} {A:Option Addr} {n c:Nat}
theorem Jz{A B:bZ}{c e:Nat}{x:eV}(h1:bS GD D w A n x.bounds)(M:bS cO D w B m x.seen)(J:n<=c)(z:m<=e)(u:jt x.body):kF.uF D w [iv x.body,aB A n c,aB B m e] x:=⟨[iv x.body],[aB A n c,aB B m e],rfl,⟨rfl,u⟩,[aB A n c],[aB B m e],rfl,⟨A,n,c,rfl,h1,J⟩,B,m,e,rfl,M,z⟩
set_option maxHeartbeats 2000000 in
theorem Tj{bw:aW}{x:cM}(hx:iu (λb=>b<w.heap.size) w bw x)(hs:bS cO (λb=>b<w.heap.size) w A n x.dU)(hnc:n<=c)(sn:Nd x):aK prog 34 #[.agg bw.toArray,aB A n c] w (λv w'=>ax w w'/\∃A' n' c',v=aB A' n' c'/\bS kF (λb=>b<w'.heap.size) w' A' n' (x.eG.map (je x))):=by
 obtain⟨cT,G1,m1,e1,G2,m2,e2,G3,m3,e3,G4,m4,e4,G5,m5,e5,G6,m6,e6,G7,m7,e7,G8,m8,e8,rfl,hd,-,-,-,bq,-⟩:=hx.ex;obtain⟨A1,n1,c1,A2,n2,c2,A3,n3,c3,A4,n4,c4,A5,n5,c5,A6,n6,c6,rfl,-⟩:=hd.ex;have hh:=eC sn.d;have ev:=sn.ev;obtain⟨cK,bp⟩:=pP.1 sn.inf;have ct:=hs.an;have hfl:=bq.an;have hp:m4<=256/\∀y∈x.eG,jn y=true:=by
  have:=sn.p;unfold mJ at this;by_cases h1:256<x.eG.length
  .rw[asp h1] at this;cases this
  rw[aso h1] at this;by_cases h2:x.eG.all jn=false
  .rw[asp h2] at this;cases this
  exact⟨Y,asH.1 (by cases q:x.eG.all jn with|true=>rfl|false=>exact absurd q h2)⟩
 apply aF func34 Z;refine box λb2 w1 h1=>?_;have t2:=h1.au;have s1:=h1.size;have B2:aP w1 b2 42 ([.string x.d.name,iv x.d.aG,iv x.d.cap,iv x.d.bH,aB A1 n1 c1,aB A2 n2 c2,aB A3 n3 c3,aB A4 n4 c4,aB A5 n5 c5,aB A6 n6 c6]++[iv x.every,aB G1 m1 e1,aB G2 m2 e2,aB G3 m3 e3,aB G4 m4 e4,aB G5 m5 e5,aB G6 m6 e6,aB G7 m7 e7,aB G8 m8 e8]):=h1.aS;refine go ?_;refine uk (λ(k:Nat) (A:bZ) (n c:Nat)=>[(11,iv (k:Int)),(4,aB A n c)]) (λk A n c u=>k<=m4/\n=k/\∃cs Q,bu w1 u A n c 90 3 cs/\dW kF (λb=>b<w.heap.size\/Q b) u ((x.eG.take k).map (je x)) cs/\∀b,Q b->A≠aL b/\b<u.heap.size) (λk _ _ _ _=>m4-k) 0 none 0 0 ⟨U,U,Yt⟩ ⟨Y,U,[],λ_=>False,bu.nil (.refl _ _),U,λb h=>h.elim⟩ U ?_;rintro G k A9 n9 c9 u ⟨hk,hn,db,Q,o,fl,hQ⟩;refine cD (λhlt=>?_) λhge=>?_
 .have aa:=h1.ae.trans o.ae;obtain⟨bb,oo,cs,y,rfl,hy,-,-,hcc,bk⟩:=(bq.ae aa).au (show k<m4 from Y);obtain⟨Ab,nb,cb,Bs,ms,es,rfl,br,-,hbc,-,c8⟩:=kH bk;have be:=asq hy;have bo:=br.an;have bE:=Jy sn.fo y be;have hsh:=hp.2 y be;have cw:nb<=16:=by unfold jn at hsh;rw[asy] at hsh;omega
  have hI:∀i:Nat,i<nb->0<=(i:Int)*x.every/\(i:Int)*x.every<x.d.aG:=λi hi=>by have h1:(i:Int)*x.every<=((nb:Int)-1)*x.every:=ati Y Y;have h2:0<=(i:Int)*x.every:=atq Y Y;rw[bo] at bE;omega
  obtain⟨sl,ak⟩:∃sl,sl=(je x y).seen:=⟨_,U⟩;have bg:sl.length=nb:=by rw[ak];show((List.range y.bounds.length).map _).length=nb;rw[asz,as3,bo]
  have a8:∀i:Nat,i<nb->sl[i]? =some (aV ((x.dU.take (min (((i:Int)+1)*x.every) x.d.aG).toNat).drop ((i:Int)*x.every).toNat)):=λi hi=>by rw[ak];show((List.range y.bounds.length).map _)[i]? =_;rw[as6,atU Y];rfl
  refine go ?_;refine alloc λb6 u1 a1=>?_;refine fg a1.aS λu2 B6 k2 _=>?_;have B6:aP u2 b6 90 [iv y.body,aB Ab nb cb,aB Bs ms es]:=B6;have t6:=a1.au;have s6:=a1.size;refine go ?_;refine st B6 (by simp) U λu3 B6 k3 z3=>?_;have B6:aP u3 b6 90 [iv y.body,aB Ab nb cb,aY]:=B6;have z2:=k2.size;have af:ax u u3:=(a1.ae.ag k2 λb hb _=>Y).ag k3 λb hb _=>Y;have cr:=af.size;have cp:=o.ae.size;refine go ?_;refine aM (λk:Nat=>[(19,iv (k:Int))]) (λj v=>j<=nb/\aj (λb=>b≠b6) u3 v/\∃As V,aP v b6 90 [iv y.body,aB Ab nb cb,aB As j V]/\bu w v As j V 3 1 (cJ (sl.take j))/\∀g,As=aL g->u3.heap.size<=g) (λj _=>nb-j) 0 ⟨U,Yt⟩ ⟨Y,.refl _ _,none,0,B6,.nil (aa.trans af),λg hg=>by cases hg⟩ U ?_;rintro G2 j v ⟨hj,kv,As,V,B6,oA,J⟩;have a6:ax u v:=af.ag kv λb hb _=>Y;have xwv:=aa.trans a6;have zv:=kv.size;refine cD (λhlt2=>?_) λhge2=>?_
  .have a7:j<nb:=Y;have cL:=hI j a7;have e1:((j:Int)+1)*x.every=j*x.every+x.every:=by rw[atX];omega
   have C2:=B2.ae (o.ae.trans a6);have bt:As≠aL b6:=λe=>by have:=J b6 e;have:=B6.lt;omega
   obtain⟨lo,bG⟩:∃lo:Nat,lo=((j:Int)*x.every).toNat:=⟨_,U⟩;obtain⟨hi,bT⟩:∃hi:Nat,hi=(min (((j:Int)+1)*x.every) x.d.aG).toNat:=⟨_,U⟩;refine bR (oP [17,18,19,21] [21] [0,1,2,3,4,5,6,7,8,9,10,11,12,13,14,15,16,17,18,19,20,21]) [21] (λz=>aj (λb=>As≠aL b) v z) mx Z (.refl _ _) ?_;refine bC ?_;refine fu (aB As j V) (B6.ai U) bt (.refl _ _) ?_;refine go ?_;refine fu (iv x.every) (C2.ai U) (λe=>by have:=J b2 e;omega) (.refl _ _) ?_;refine go ?_;refine fu (iv x.every) (C2.ai U) (λe=>by have:=J b2 e;omega) (.refl _ _) ?_;refine go ?_;refine fu (iv x.d.aG) (C2.ai U) (λe=>by have:=J b2 e;omega) (.refl _ _) ?_;refine Km lo hi (hs.ae xwv) hnc (by show _=(lo:Int);omega) (by show _=(hi:Int);omega) Y Y U λAx cg=>?_;refine bW (Ns (cg _ _ (hs.ae xwv)) (λv hv=>bp v (asW (List.mem_of_mem_drop hv))) Y) λv1 x1=>?_;refine bN (ax.any x1) ?_;obtain⟨sm,hsm⟩:∃sm,sm=aV ((x.dU.take hi).drop lo):=⟨_,U⟩;rw[<-hsm];refine lit [iv sm] λgg v2 hq=>?_;refine bN ((ax.any x1).trans (ax.any hq.ae)) ?_;refine iI ((oA.ag x1).ag hq.ae) (hq.src (sz:=1) U) Y λA' c' v3 o3 O aq=>?_;refine bN (((ax.any x1).trans (ax.any hq.ae)).trans O) ?_;have x12:=x1.trans hq.ae;have ck:=x12.size;refine go ?_;refine gv (λ_=>True) Yt ?_;refine st ((B6.ae x12).ah O bt) (by simp) U λv4 av k4 z4=>?_;have av:aP v4 b6 90 [iv y.body,aB Ab nb cb,aB A' (j+1) c']:=av;refine go ?_;have hA8:∀g,A'=aL g->u3.heap.size<=g:=λg hg=>by
    rcases aq with e|e|e
    .exact J g (e.symm.trans hg)
    .rw[e] at hg;cases hg
    .rw[e] at hg;injection hg with hg;injection hg with hg;have:=hq.size;omega
   have x4:ax w v4:=o3.ae.ag k4 λb hb _ e=>Y;refine next (j+1) ⟨Yn,Yt⟩ ⟨Y,((kv.ag x12 λ_ _ _=>Yt).ag O λb hb _ e=>by have:=J b e;omega).ag k4 λb _ h=>h,A',c',av,?_,hA8⟩ Y;have ht:sl.take (j+1)=sl.take j++[sm]:=by rw[asD,a8 j a7,<-bT,<-bG,<-hsm];rfl
   have:=o3.bY k4 (λg hg e=>by have:=hA8 g hg;omega) x4;rw[ht];unfold cJ at this|-;rw[asK];exact this
  .have a7:j=nb:=Y;rw[a7] at B6 oA;rw[asx Y] at oA;refine go ?_;refine lit [.agg #[iv y.body,aB Ab nb cb,aB As nb V]] λgg v2 hq=>?_;have sq:=hq.src (sz:=3) U;have xu2:=a6.trans hq.ae;have zq:=hq.size;have tq:=hq.au;refine iI ((o.ag a6).ag hq.ae) sq Y λA' c' v3 o3 O aq=>go ?_;have ht:x.eG.take (k+1)=x.eG.take k++[y]:=by rw[asD,hy];rfl
   have o9lt:∀g,A9=aL g->g<u.heap.size:=λg hg=>Zc
   have ay:∀g,As=aL g->g<v.heap.size:=λg hg=>by
    rcases oA.form with⟨e',-⟩|⟨g',e',-,h2,-⟩
    .rw[e'] at hg;cases hg
    .exact LP
   refine qN (k+1) A' (n9+1) c' ⟨Yn,U,Yt⟩ ⟨Y,Y,_,λb=>Q b\/As=aL b,o3,?_,λb hb=>?_⟩ Y
   .rw[ht,asK];have kf:=(ax.any xu2).trans O;have b0:∀b,b<w.heap.size->A9≠aL b:=λb hb e=>by have:=o.new b e;omega
    have bx:=h1.ae.trans o3.ae;have oS:=(oA.ag hq.ae).bY O (λg hg e=>by have:=J g hg;have:=o9lt g e;omega) bx;have bA:∀z∈sl,jt z:=λz hz=>by
     obtain⟨i,hi⟩:=ath hz;have cI:=(asr.1 hi).1;rw[a8 i Y] at hi;injection hi with hi;have h1:=jl (l:=(x.dU.take (min (((i:Int)+1)*x.every) x.d.aG).toNat).drop ((i:Int)*x.every).toNat) λv hv=>bp v (asW (List.mem_of_mem_drop hv));have h2:((x.dU.take (min (((i:Int)+1)*x.every) x.d.aG).toNat).drop ((i:Int)*x.every).toNat).length<=x.dU.length:=by rw[atM,asF];omega
     unfold jt;omega
    refine dW.app ((fl.di λb hb hD=>kf.aS b hb (hD.elim (b0 b) λq=>(hQ b q).1)).ar λb _ h=>h.elim .inl λq=>.inr (.inl q)) (.one ?_);refine Jz (x:=je x y) ((br.ah kf λb hb h=>b0 b h).ar Yd λb _ h=>.inl h) ?_ hbc oS.le c8;rw[<-ak];exact oS.own.rd (a:=cO) (fX bA) bg.symm Y λg hg=>.inr (.inr hg)
   .have z3:=O.size;have hb1:b<v2.heap.size:=by
     rcases hb with hb|hb
     .have:=(hQ b hb).2;have:=xu2.size;omega
     .have:=ay b hb;omega
    refine⟨λe=>?_,Y⟩;rcases aq with e'|e'|e'
    .rw[e'] at e;rcases hb with hb|hb
     .exact(hQ b hb).1 e
     .have:=J b hb;have:=o9lt b e;omega
    .rw[e'] at e;cases e
    .rw[e'] at e;injection e with e;injection e with e;omega
 .have bI:k=m4:=Y;rw[bI] at fl;rw[asx Y] at fl;have xw:=h1.ae.trans o.ae;refine ret ⟨xw,A9,n9,c9,U,o.own.rd (a:=kF) (fl.ar λb hb _=>hb) (by rw[asz];omega) Y λg hg=>?_⟩;exact Zc
end
end
end Go.Proofs.YtakcjkbnfegidaaGreat
