/- Part. -/
import Derived.Test.YtakcjkbnfegidaaGreatPT9
set_option linter.all false
namespace Go.Proofs.YtakcjkbnfegidaaGreat
open Go Go.RowKit Tryz
abbrev aj.then:=@aj.ag
variable{x:jd}{aH h t:Int}{j xs:List jd}{k:Nat}{w0:World}{l:List Cm}{a y:Cm}{d:aU}{ps:List eV}
section
open Classical
section
variable {D:Nat->Prop} {w:World} {A:Option Addr} {n c:Nat}
def DU(x:jd)(aH:Int)(y:jd):Bool:=!(decide (y.fI=x.no+1)&&decide (y.aH<=aH))
theorem IY{j:List jd}{x:jd}{aH:Int}:(!j.all (DU x aH))=RW j x aH:=by
 unfold RW DU;induction j with
 |nil=>rfl
 |cons a j u=>rw[atv,avG,<-u,Bool.not_and,Bool.not_not]
theorem OQ{y:jd}{O M:Nat}(J:aP w O 62 x.c)(z:aP w M 3 [iv aH])(X:0<=x.no/\x.no<=1048576):aA 376 #[.agg y.c.toArray,ptr O,ptr M] w (.bool (!DU x aH y)):=by
 refine aF func376 Z<|box λY W h1=>?_;have B3:=h1.aS;have J:=J.ae h1.ae;have z:=z.ae h1.ae;refine go ?_;have e:(!DU x aH y)=(decide (y.fI=x.no+1)&&decide (y.aH<=aH)):=by unfold DU;rw[Bool.not_not]
 refine cD (λq=>?_) λq=>?_
 .refine go<|cD (λu=>?_) λu=>?_
  .exact aQ _ U ⟨by rw[e,asE q,asE u];rfl,h1.ae⟩
  .exact aQ _ U ⟨by rw[e,asE q,asG u];rfl,h1.ae⟩
 .exact aQ _ U ⟨by rw[e,asG q];rfl,h1.ae⟩
theorem Wf{b4 b5:Nat}(h4:aP w b4 62 x.c)(h5:aP w b5 3 [iv aH])(J:0<=x.no/\x.no<=1048576)(h:bS wI D w A n xs):aK prog 167 #[aB A n c,.func (.func 376) #[] #[ptr b4,ptr b5]] w (λv w'=>(∃i:Int,v=iv i/\(i>=0↔xs.all (DU x aH)=false))/\ax w w'):=by
 refine aF func167 Z<|an<|aM (λk:Nat=>[(8,iv (k:Int))]) (λk w'=>k<=n/\ax w w'/\xs.all (DU x aH)=(xs.drop k).all (DU x aH)) (λk _=>n-k) 0 ⟨U,Yt⟩ ⟨Y,.refl _ _,U⟩ U ?_;rintro G k w' ⟨hk,xw,he⟩;refine cD (λhlt=>?_) λhge=>?_
 .obtain⟨b,o,cs,y,rfl,hy,O,-,hc,rfl⟩:=(h.ae xw).au (show k<n from Y);rw[O,atv] at he;refine go<|dt (OQ (x:=x) (y:=y) (h4.ae xw) (h5.ae xw) J) (λw2 g x2=>?_) λw2 g x2=>?_
  .exact TN
  .exact aoN
 .exact LO
theorem Sx{x:jd}{aH:Int}{O M:Nat}{xs:List jd}(W:aP w O 62 x.c)(V:aP w M 3 [iv aH])(u:0<=x.no/\x.no<=1048576)(h:bS wI D w A n xs):aA 375 #[aB A n c,.func (.func 376) #[] #[ptr O,ptr M]] w (.bool (!xs.all (DU x aH))):=by
 refine aF func375 Z<|aJ (Wf W V u h) ?_;rintro _ J ⟨⟨i,rfl,hi⟩,z⟩;refine cD (λg=>?_) λg=>?_
 .exact aQ _ U ⟨by rw[hi.1 g];rfl,z⟩
 .refine aQ _ U ⟨?_,z⟩;cases q:xs.all (DU x aH) with
  |true=>rfl
  |false=>exact absurd (hi.2 q) g
theorem Sy(J:0<=x.no/\x.no<=1048576)(h:bS wI D w A n xs):aA 324 #[aB A n c,.agg x.c.toArray,iv aH] w (.bool (RW xs x aH)):=by
 refine aF func324 Z<|box λb4 X h1=>box λY W M=>?_;have z:=h1.ae.trans M.ae;refine dt (Sx (x:=x) (h1.aS.ae M.ae) M.aS J (h.ae z)) (λO q u=>?_) λO q u=>?_
 .exact aQ (.bool true) U ⟨by rw[<-IY,q],z.trans u⟩
 .exact aQ (.bool false) U ⟨by rw[<-IY,q],z.trans u⟩
theorem CQ:aK prog 242 #[aB A n c,iv aH] w (λv w'=>∃b1 b2,v=.func (.func 323) #[] #[ptr b1,ptr b2]/\ax w w'/\aP w' b1 34 [aB A n c]/\aP w' b2 3 [iv aH]/\w.heap.size<=b1/\w.heap.size<=b2):=by
 refine aF func242 Z<|box λb1 w1 h1=>box λb2 w2 h2=>?_;exact W3
theorem ane{α:Type}{p:α->Bool}{l:List α}{x:α}(h:l[k]? =some x)(hp:p x=true):(l.filter p)[((l.take k).filter p).length]? =some x:=by
 refine Zk ?_;intro hk e;have e2:l.filter p=(l.take k).filter p++x::(l.drop (k+1)).filter p:=by conv=>lhs;rw[e];rw[atp,atT,asp hp]
 rw[e2,asY (asN _),aug];rfl
theorem MQ{α:Type}{p:α->Bool}{l:List α}{x:α}(h:l[k]? =some x):(l.take (k+1)).filter p=(l.take k).filter p++if p x then [x] else []:=by
 rw[asD,h];show((l.take k)++[x]).filter p=_;rw[atp,atT,awG]
set_option maxRecDepth 4000 in
theorem za{D':Nat->Prop}{l b1 X:Nat}(J:Nat->World->Prop)(hJ:∀k w V,J k w->ax w V->J k V)(W:∀(k:Nat) x u,(mV xs aH)[k]? =some x->J k u->iQ prog l [.agg x.c.toArray].toArray (λv V=>v=.bool true/\J (k+1) V/\aj D u V) u)(af:D b1)(ab:D X)(aa:∀b,D' b->D b)(h1:aP w b1 34 [aB A n c])(h2:aP w X 3 [iv aH])(hx:bS wI D' w A n xs)(a7:∀x∈xs,0<=x.no/\x.no<=1048576)(h0:J 0 w):aK prog 323 #[.func (.yield l) #[] #[],ptr b1,ptr X] w (λ_ V=>J (mV xs aH).length V):=by
 have hl:=hx.an;have hle:=hx.le;apply aF func323 Z;refine go ?_;refine aM (λk:Nat=>[(8,iv (k:Int))]) (λk u=>k<=n/\aP u b1 34 [aB A n c]/\aP u X 3 [iv aH]/\bS wI D' u A n xs/\J ((xs.take k).filter (K8 xs aH)).length u) (λk _=>n-k) 0 ⟨U,Yt⟩ ⟨Y,h1,h2,hx,h0⟩ U ?_;rintro G k u ⟨hk,B1,B2,hs,hj⟩;refine cD (λao=>?_) λaq=>?_
 .obtain⟨bb,oo,cs,x,rfl,O,-,-,av,rfl⟩:=hs.au (show k<n from Y);have a6:=a7 x (asq O);refine go ?_;refine alloc λb5 u1 a1=>?_;refine fg a1.aS λu2 B5 k2 ak=>?_;have e5:=a1.au;have z:=a1.ae.ag k2 λb hb _ e=>Y;have fb:K8 xs aH x=(decide (x.fI=0)&&(decide (x.aH<=aH)&&(dS aH x.dq x.to&&!RW xs x aH))):=U;have skip:∀v,ax u v->K8 xs aH x=false->k+1<=n/\aP v b1 34 [aB (some (ad bb oo)) n c]/\aP v X 3 [iv aH]/\bS wI D' v (some (ad bb oo)) n xs/\J ((xs.take (k+1)).filter (K8 xs aH)).length v:=λv xv e=>⟨Y,B1.ae xv,B2.ae xv,hs.ae xv,by rw[MQ O,e];simp only[avy,aws,asT];exact hJ _ _ _ hj xv⟩;refine go ?_;refine cD (λq1=>?_) λq1=>?_;rotate_left
  .refine go ?_;exact next (k+1) ⟨Yn,Yt⟩ (skip _ (z) (by rw[fb,asG q1];rfl)) Y
  refine go ?_;refine ld _ ((B2.ae z).ai U) ?_;refine cD (λq2=>?_) λq2=>?_;rotate_left
  .refine go ?_;exact next (k+1) ⟨Yn,Yt⟩ (skip _ (z) (by rw[fb,asG q2,avl,atA])) Y
  refine ld _ ((B2.ae z).ai U) ?_;refine go ?_;refine cR vd (λq3=>?_) λq3=>?_;rotate_left
  .refine go ?_;exact next (k+1) ⟨Yn,Yt⟩ (skip _ (z) (by rw[fb,q3,avl,atA,atA])) Y
  refine ld _ ((B1.ae z).ai U) ?_;refine go ?_;refine ld _ ((B2.ae z).ai U) ?_;refine dt (Sy a6 (hs.ae z)) (λu3 q4 x3=>?_) λu3 q4 x3=>?_
  .refine go ?_;exact next (k+1) ⟨Yn,Yt⟩ (skip _ (z.trans x3) (by rw[fb,q4,awj,atA,atA,atA])) Y
  have yes:K8 xs aH x=true:=by rw[fb,asE q1,asE q2,q3,q4];rfl
  have M:=z.trans x3;refine fj _ (.aS (B5.ae x3)) U ?_;refine eA (W _ x u3 (ane O yes) (hJ _ _ _ hj M)) ?_;rintro _ u6 ⟨rfl,j6,k6⟩;refine go ?_;exact next (k+1) ⟨Yn,Yt⟩ ⟨Y,(B1.ae M).ah k6 af,(B2.ae M).ah k6 ab,(hs.ae M).ah k6 λb _ h=>aa b h,by rw[MQ O,yes,asu];exact j6⟩ Y
 .have a8:k=xs.length:=Y;rw[a8,auh] at hj;exact mD hj
end
section
variable {D:Nat->Prop} {w:World} {di:Cm->Bool}
theorem acp{ms:List Cm}{n c:Nat}{A:bZ}(h:bu w0 w A n c 65 5 (ms.flatMap bM))(hle:n<=1000000)(hp:∀(x:Cm) (u:World),ax w u->aA 326 #[.agg (bM x).toArray] u (.bool (!di x))):aK prog 374 #[aB A n c,.func (.func 326) #[] #[]] w (λv w'=>((v=iv (-1)/\ms.filter di=ms)\/∃k:Nat,v=iv (k:Int)/\k<n/\(ms.take (k+1)).filter di=ms.take k)/\ax w w'):=by
 have hK:∀x,(bM x).length=5:=λ_=>rfl;have J:=h.own.an;rw[bz hK] at J;apply aF func374 Z;exact an5
theorem acq{ms:List Cm}{A:bZ}{n c:Nat}(h:bu w0 w A n c 65 5 (ms.flatMap bM))(hle:n<=1000000)(hp:∀(x:Cm) (u:World),ax w u->aA 326 #[.agg (bM x).toArray] u (.bool (!di x)))(J:∀(x:Cm) (u:World),ax w0 u->aA 326 #[.agg (bM x).toArray] u (.bool (!di x))):aK prog 325 #[aB A n c,.func (.func 326) #[] #[]] w (λv w'=>∃A' n' c',v=aB A' n' c'/\bu w0 w' A' n' c' 65 5 ((ms.filter di).flatMap bM)/\n'<=n/\aj (λb=>A≠aL b) w w'/\(A'=A\/A'=none)):=by
 have hK:∀x,(bM x).length=5:=λ_=>rfl;have O:=h.own.an;rw[bz hK] at O;apply aF func325 Z;apply aJ (acp (c:=c) h hle hp);rintro _ w1 ⟨⟨rfl,hno⟩|⟨k,rfl,hkn,hk⟩,x1⟩
 .refine adL ?_;rw[hno];exact h.ag x1
 refine cE (λe=>Y) λ_=>?_;refine go ?_;rcases h.form with⟨_,h0,_⟩|⟨g,rfl,hg0,hgl,hnc⟩
 .omega
 refine ao0 ?_;intro rest hb0 hbl;rintro G j i _ w2 ⟨a6,V,k2,cur,hcl,hb2,hc1,hc2⟩;have xw0:=(h.ae.trans x1).ag k2 λb hb _ e=>Y;refine an ?_;refine cD (λhlt=>?_) λhge=>?_
 .refine Xa ?_;intro hlt m hm hcm htk;refine fj _ (cZ hK hb2 hcm) U ?_;refine alloc λt v1' h1''=>?_;refine fg h1''.aS λw3 tb s2 zs=>?_;have t1:=h1''.au;have hgl2:=hb2.lt;have x23:ax w2 w3:=h1''.ae.ag s2 λb hb _ e=>Y;have htg:t≠g:=Y;refine go ?_;refine dt (J m w3 (xw0.trans x23)) (λw4 q x4=>?_) λw4 q x4=>?_
  .exact g_9
  .exact an3
 .exact g_5
end
def jk(f:Int):Int->List Cm->Int
 |left,[]=>left
 |left,c::l=>if c.aO=f then jk f (left-min c.aC left) l else jk f left l
theorem tx{f:Int}{c:Cm}:∀{l:List Cm} {left:Int},jY f left (l++[c])=jY f left l++[if c.aO=f then{c with aC:=min c.aC (jk f left l)} else c]
 |[],left=>by
  show jY f left [c]=_
  unfold jY jk
  split<;>rfl
 |a::l,left=>by
  rw[atC]
  unfold jY jk
  split
  .rw[tx];rfl
  .rw[tx];rfl
theorem qC{f:Int}{c:Cm}:∀{l:List Cm} {left:Int},jk f left (l++[c])=if c.aO=f then jk f left l-min c.aC (jk f left l) else jk f left l
 |[],left=>by
  show jk f left [c]=_
  unfold jk
  split<;>rfl
 |a::l,left=>by
  rw[atC]
  unfold jk
  split
  .exact qC
  .exact qC
theorem sj{f:Int}:∀{l:List Cm} {left:Int},(jY f left l).length=l.length
 |[],_=>rfl
 |c::l,left=>by
  unfold jY
  split
  .rw[as2,as2,sj]
  .rw[as2,as2,sj]
theorem yx{f:Int}:∀{l:List Cm} {left:Int},0<=left->(∀c∈l,0<=c.aC)->0<=jk f left l/\jk f left l<=left
 |[],left,h,_=>⟨h,asO _⟩
 |c::l,left,h,z=>by
  have J:=z c ass
  unfold jk
  split
  .have:=yx (f:=f) (l:=l) (left:=left-min c.aC left) Y λx u=>z x (ast _ u)
   omega
  .exact yx h λx u=>z x (ast _ u)
def nwJ(w:World)(A B:bZ):Prop:=B=A\/B=none\/∃g,B=some (ad g 0)/\w.heap.size<=g
section
variable {w0 w:World} {A:Option Addr} {n c:Nat}
theorem Lg{x:Cm}{rest:aW}(z:l[k]? =some x)(e:y.right=x.right/\y.aO=x.aO/\y.aH=x.aH/\y.cC=x.cC):(l.flatMap bM++rest).set (k*5+3) (iv y.aC)=(l.set k y).flatMap bM++rest:=by
 have hk:=(asr.1 z).1;rw[<-mj (K:=5) (λ_=>rfl) hk];have hlen:(l.flatMap bM++rest).length=l.length*5+rest.length:=by rw[asu,bz (K:=5) λ_=>rfl]
 have hmul:k*5+5<=l.length*5:=Y;have u:∀m,m<5->(l.flatMap bM++rest)[k*5+m]? =(bM x)[m]? :=λm hm=>by rw[asR (by rw[bz (K:=5) λ_=>rfl];omega)];exact Mt m z hm
 obtain⟨Z,J⟩:∃Z,Z=l.flatMap bM++rest:=⟨_,U⟩;rw[<-J] at hlen u|-;apply atG;intro j;by_cases h1:j<k*5
 .rw[av0 Y,as5,asR (by rw[asF];omega),aty,asp h1]
 .by_cases h2:j<k*5+5
  .obtain⟨m,rfl⟩:∃m,j=k*5+m:=⟨j-k*5,Y⟩;have hm:m<5:=Y;rw[as5,asY (by rw[asF];omega),asF,ava Y,show k*5+m-k*5=m from Y,asR (by show m<5;exact hm)];by_cases O:m=3
   .subst O;rw[auq Y];rfl
   .rw[av0 Y,u m hm];obtain⟨e1,X,W,V⟩:=e;have:m=0\/m=1\/m=2\/m=4:=Y;rcases this with rfl|rfl|rfl|rfl
    .show some (iv x.right)=some (iv y.right);rw[e1]
    .show some (iv x.aO)=some (iv y.aO);rw[X]
    .show some (iv x.aH)=some (iv y.aH);rw[W]
    .show some (iv x.cC)=some (iv y.cC);rw[V]
  .have M:(Z.take (k*5)++bM y).length=k*5+5:=by rw[asu,asF];show min (k*5) _+5=_;omega
   rw[av0 Y,asY Y,M,au9];congr 1;omega
theorem Wg:aA 322 #[aB A n c,.agg x.c.toArray] w (aB A n c):=by
 refine aF func322 Z<|box λJ z h1=>aQ _ U ⟨U,h1.ae⟩
set_option maxRecDepth 4000 in
theorem IZ{x:jd}{l:List Cm}(o:bu w0 w A n c 65 5 (l.flatMap bM))(hp:∀y∈l,0<=y.aC/\y.aC<=4398046511104)(hx:0<=x.n/\x.n<=1073741824)(hle:n<=1000000):aK prog 320 #[aB A n c,.agg x.c.toArray] w (λv w'=>v=aB A n c/\bu w0 w' A n c 65 5 ((jY x.aO x.n l).flatMap bM)/\aj (λb=>A≠aL b) w w'):=by
 have hl:l.length=n:=by have:=o.own.an;exact Ec
 apply aF func320 Z;refine box λb3 w1 h1=>?_;have B3:=h1.aS;have e3:=h1.au;have a8:∀v,bu w0 v A n c 65 5 (l.flatMap bM)->True:=λ_ _=>Yt;clear a8;have hA:∀b,w.heap.size<=b->A≠aL b:=λb hb=>by
  intro e;rcases o.form with⟨q,-⟩|⟨g,q,-,hlt,-⟩
  .rw[q] at e;cases e
  .rw[q] at e;injection e with e;injection e with e;omega
 refine go ?_;refine aM (λk:Nat=>[(11,iv (k:Int)),(5,iv (jk x.aO x.n (l.take k)))]) (λk u=>k<=n/\aj (λb=>A≠aL b) w1 u/\bu w0 u A n c 65 5 ((jY x.aO x.n (l.take k)++l.drop k).flatMap bM)) (λk _=>n-k) 0 ⟨U,U,Yt⟩ ⟨Y,.refl _ _,o.ag h1.ae⟩ U ?_;rintro G k u ⟨hk,ku,V⟩;refine cD (λhlt=>?_) λhge=>?_
 .obtain⟨y,hy⟩:=gx l k;have htk:l.take (k+1)=l.take k++[y]:=by rw[asD,hy];rfl
  have hdk:l.drop k=y::l.drop (k+1):=by rw[atB Y];rw[(asr.1 hy).2]
  have O:(jY x.aO x.n (l.take k)).length=k:=by rw[sj,asF];omega
  have a6:(jY x.aO x.n (l.take k)++l.drop k)[k]? =some y:=by rw[asY Y,O,aug,hdk];rfl
  have hyp:=hp y (asq hy);have aa:=yx (f:=x.aO) (l:=l.take k) hx.1 λz hz=>(hp z (asW hz)).1;have af:=hA;have B3u:=B3.ah ku (hA b3 Y);rcases V.form with⟨-,h0,-⟩|⟨g,rfl,hg0,hgl,hnc⟩
  .omega
  obtain⟨rest,hbk,hbl,-⟩:=V.own.aS;have hc:=cZ (K:=5) (λ_=>rfl) hbk a6;refine bR (oP [] [] [0,1,2,3,4,5,6,7]) [] (λz=>ax u z) mx Z (.refl _ _) ?_;refine idx k U Y ?_;refine bC ?_;refine fu _ (hc 1 _ U) Yt (.refl _ _) ?_;refine bC ?_;refine fu _ (B3u.ai U) Yt (.refl _ _) ?_;refine cD (λq=>?_) λq=>?_
  .refine idx k U Y ?_;refine bC ?_;refine ld _ (hc 3 _ U) ?_;refine idx k U Y ?_;refine bC ?_;have hlen:=congrArg List.length (mj (K:=5) (enc:=bM) (λ_=>rfl) (l:=jY x.aO x.n (l.take k)++l.drop k) (i:=k) (m:=y) (rest:=rest) (by rw[asu,O,atM];omega));refine st (v:=iv (min y.aC (jk x.aO x.n (l.take k)))) hbk ?_ U λu2 hb2 k2 z2=>?_
   .rw[hbl];omega
   have J:(jY x.aO x.n (l.take k)++l.drop k).set k {y with aC:=min y.aC (jk x.aO x.n (l.take k))}=jY x.aO x.n (l.take (k+1))++l.drop (k+1):=by rw[htk,tx,asp q,avk _ _ Y,O,aug,hdk,as5];rfl
   have hb2:aP u2 g 65 ((jY x.aO x.n (l.take (k+1))++l.drop (k+1)).flatMap bM++rest):=by rw[<-J,<-Lg (rest:=rest) a6 (y:={y with aC:=min y.aC (jk x.aO x.n (l.take k))}) ⟨U,U,U,U⟩];rw[show k*5+3=0+k*5+3 from Y];exact hb2
   have a7:(jY x.aO x.n (l.take (k+1))++l.drop (k+1))[k]? =some {y with aC:=min y.aC (jk x.aO x.n (l.take k))}:=by rw[<-J,auq (by rw[asu,O,atM];omega)]
   have hc2:=cZ (K:=5) (λ_=>rfl) hb2 a7;refine idx k U Y ?_;refine bC ?_;refine ld _ (hc2 3 _ U) ?_;refine eD (n:=jk x.aO x.n (l.take k)-min y.aC (jk x.aO x.n (l.take k))) Y ?_;refine eD (n:=(k:Int)+1) Y ?_;refine next (k+1) ⟨Yn,by rw[htk,qC,asp q];rfl,Yt⟩ ⟨Y,ku.ag k2 λb hb hh e=>hh (by rw[e]),⟨jH.iH hb2 ?_ ?_ hnc V.own.cap,V.ae.ag k2 λb hb _ e=>Y,V.new⟩⟩ Y
   .rw[bz (K:=5) λ_=>rfl,asu,sj,asF,atM];omega
   .rw[asu,bz (K:=5) λ_=>rfl,asu,O,atM] at hbl;rw[asu,bz (K:=5) λ_=>rfl,asu,sj,asF,atM];omega
  .have J:jY x.aO x.n (l.take k)++l.drop k=jY x.aO x.n (l.take (k+1))++l.drop (k+1):=by rw[htk,tx,aso q,hdk,as5];rfl
   rw[J] at V;refine go ?_;exact next (k+1) ⟨Yn,by rw[htk,qC,aso q];rfl,Yt⟩ ⟨Y,ku,V⟩ Y
 .obtain rfl:k=n:=Y;rw[asx Y,as8 Y,asT] at V;exact aQ _ U ⟨U,V,(ax.any h1.ae).trans ku⟩
theorem I0{u:World}:aA 326 #[.agg (bM y).toArray] u (.bool (!decide (y.aC≠0))):=by
 refine aF func326 Z<|box λM J h1=>?_;have O:=h1.aS;refine go<|cD (λq=>?_) λq=>?_
 .exact aQ _ U ⟨by rw[asG (by simpa using q)];rfl,h1.ae⟩
 .exact aQ _ U ⟨by rw[asE q];rfl,h1.ae⟩
theorem MR(o:bu w0 w A n c 65 5 (l.flatMap bM))(hd:fT EZ l)(hle:n<=1000000):aK prog 243 #[aB A n c] w (λv w'=>∃A' n' c',v=aB A' n' c'/\bu w0 w' A' n' c' 65 5 ((GN l).flatMap bM)/\n'<=n/\aj (λb=>A≠aL b) w w'/\(A'=A\/A'=none)):=by
 refine aF func243 Z<|aJ (acq (di:=λy=>decide (y.aC≠0)) o hle (λx u _=>I0) λx u _=>I0) ?_;rintro _ w1 ⟨A1,n1,c1,rfl,o1,O,k1,J⟩;have V:fT EZ (l.filter λy=>decide (y.aC≠0)):=avp _ hd;obtain⟨fl,hfl⟩:∃fl,fl=l.filter λy=>decide (y.aC≠0):=⟨_,U⟩;rw[<-hfl] at o1 V;have hl:fl.length=n1:=by have:=o1.own.an;exact Ec
 have ht:GN l=il EZ fl:=by rw[hfl];rfl
 rcases o1.form with⟨rfl,rfl,rfl⟩|⟨g,rfl,hg0,hgl,hnc⟩
 .have h0:=asL hl;apply aJ VQ;rintro _ w2 ⟨rfl,rfl⟩;refine aQ _ U ⟨none,0,0,U,?_,O,k1,J⟩;rw[ht,h0];exact bu.nil o1.ae
 .obtain⟨rest,hbk,hbl,-⟩:=o1.own.aS;have hA:A=aL g:=by
   rcases J with q|q
   .exact q.symm
   .cases q
  apply aJ (Sj hbk hl.symm Y V);rintro _ w2 ⟨rfl,hb2,k2⟩;have hs:(il EZ fl).length=n1:=by rw[(cP _).length_eq,hl]
  rw[<-ht] at hb2 hs;have x2:=o1.ae.ag k2 λb hb _ e=>Y;refine aQ _ U ⟨aL g,n1,c1,U,⟨jH.iH hb2 ?_ ?_ hnc o1.own.cap,x2,o1.new⟩,O,k1.ag k2 λb hb hh e=>hh (by rw[hA,e]),J⟩
  .rw[bz (K:=5) λ_=>rfl,hs]
  .rw[asu,bz (K:=5) λ_=>rfl,hs];rw[asu,bz (K:=5) λ_=>rfl,hl] at hbl;exact hbl
theorem Sz:aK prog 240 #[] w (λv w'=>∃g f,v=.map (some g)/\w.heap.size<=g/\ax w w'/\dw fY w' g f/\f 1=some (.func (.func 320) #[] #[])/\f 2=some (.func (.func 320) #[] #[])/\f 3=some (.func (.func 321) #[] #[])/\f 4=some (.func (.func 322) #[] #[])):=by
 refine aF func240 Z<|qV λg w1 hg hw1=>?_;refine Zw ?_;intro x1 M1 lg;refine kV (kv:=fY) (1:Int) (v:=.func (.func 320) #[] #[]) M1 λw2 M2 k2 s2=>kV (kv:=fY) (2:Int) (v:=.func (.func 320) #[] #[]) M2 λw3 O k3 s3=>kV (kv:=fY) (3:Int) (v:=.func (.func 321) #[] #[]) O λw4 M4 k4 s4=>kV (kv:=fY) (4:Int) (v:=.func (.func 322) #[] #[]) M4 λw5 J k5 s5=>aQ _ U ⟨g,_,U,Y,(((x1.ag k2 λb hb _=>Y).ag k3 λb hb _=>Y).ag k4 λb hb _=>Y).ag k5 λb hb _=>Y,J,?_,?_,?_,?_⟩
 .unfold dZ;rw[aso Yd,aso Yd,aso Yd,asp U]
 .unfold dZ;rw[aso Yd,aso Yd,asp U]
 .unfold dZ;rw[aso Yd,asp U]
 .unfold dZ;rw[asp U]
end
theorem SA{l:List Cm}(z:∀c∈l,0<=c.aC):∀{c},c∈l->c.aC<=aV (iO l)/\0<=aV (iO l):=by
 induction l with
 |nil=>intro c u;cases u
 |cons a l J=>
  intro c u;have e:aV (iO (a::l))=a.aC+aV (iO l):=bK;have O:=z a ass;have M:0<=aV (iO l):=by
   cases l with
   |nil=>exact asO _
   |cons b l=>exact(J (λc u=>z c (ast _ u)) (c:=b) ass).2
  rw[e];rcases asM.1 u with rfl|u
  .omega
  .have:=(J (λc u=>z c (ast _ u)) u).1;omega
theorem dK.lit{Q:Int->Prop}(G:dK d Q h l){c:Cm}(u:c∈l):0<=c.aC/\c.aC<=4398046511104:=by
 have h1:=SA (λc u=>(G.yj c u).2.2.2.2.1) u;have:=G.rf;have:=(G.yj c u).2.2.2.2.1;omega
section
variable {w0 w:World} {A:Option Addr} {n c:Nat}
set_option maxRecDepth 4000 in
theorem SB{cc:Cm}{b2 b3 b6 i:Nat}(X:aP w b3 62 x.c)(V:aP w b2 395 [aB A n c])(O:aP w b6 3 [iv (i:Int)])(o:bu w0 w A n c 65 5 (l.flatMap bM))(W:l[i]? =some cc)(hl:n=l.length):aA 373 #[.agg (bM y).toArray,ptr b3,ptr b2,ptr b6] w (.bool (wJ x cc.right y)):=by
 have hi:=(asr.1 W).1;refine aF func373 Z<|box λb4 w1 h1=>?_;have B4:=h1.aS;have X:=X.ae h1.ae;have V:=V.ae h1.ae;have O:=O.ae h1.ae;have o:=o.ag h1.ae;apply bR (oP [] [] [0,1,2,3,4,5,6,7,8,9,10,11,12,13,14,15]) [] (λz=>ax w1 z) mx Z (.refl _ _);refine go ?_;refine cD (λq=>?_) λq=>?_
 .rcases o.form with⟨-,h0,-⟩|⟨g,rfl,a7,a6,a1⟩
  .omega
  obtain⟨rest,M,a8,-⟩:=o.own.aS;have J:=cZ (K:=5) (λ_=>rfl) M W;refine bC ?_;refine fu _ (B4.ai U) Yt (.refl _ _) ?_;refine fu _ (V.ai U) Yt (.refl _ _) ?_;refine fu _ (O.ai U) Yt (.refl _ _) ?_;refine idx i U Y ?_;refine bC ?_;refine fu _ (J 0 _ U) Yt (.refl _ _) ?_;refine cD (λu=>?_) λu=>?_
  .exact aQ _ U ⟨by unfold wJ;rw[asE q,asE u];rfl,h1.ae⟩
  .exact aQ _ U ⟨by unfold wJ;rw[asE q,asG u];rfl,h1.ae⟩
 .exact aQ _ U ⟨by unfold wJ;rw[asG q];rfl,h1.ae⟩
theorem Wh{x:jd}{l:List Cm}{cc:Cm}{b2 b3 b6 i:Nat}(h3:aP w b3 62 x.c)(h2:aP w b2 395 [aB A n c])(h6:aP w b6 3 [iv (i:Int)])(o:bu w0 w A n c 65 5 (l.flatMap bM))(hc:l[i]? =some cc)(hl:n=l.length)(hle:n<=1000000):aK prog 374 #[aB A n c,.func (.func 373) #[] #[ptr b3,ptr b2,ptr b6]] w (λv w'=>((v=iv (-1)/\l.findIdx? (wJ x cc.right)=none)\/∃k:Nat,v=iv (k:Int)/\l.findIdx? (wJ x cc.right)=some k)/\ax w w'):=by
 apply aF func374 Z;apply an;refine aM (λk:Nat=>[(8,iv (k:Int))]) (λk u=>k<=n/\ax w u/\l.findIdx? (wJ x cc.right)=((l.drop k).findIdx? (wJ x cc.right)).map (· +k)) (λk _=>n-k) 0 ⟨U,Yt⟩ ⟨Y,.refl _ _,by rw[at3];cases l.findIdx? (wJ x cc.right)<;>rfl⟩ U ?_;rintro G k u ⟨hk,xw,he⟩;refine cD (λhlt=>?_) λhge=>?_
 .refine adN ?_;intro y hy hdk;rw[hdk,List.findIdx?_cons] at he;have J:=o.ag xw;have O:=hc;rcases J.form with⟨-,h0,-⟩|⟨g,rfl,hg0,hgl,hnc⟩
  .omega
  obtain⟨rest,hbk,hbl,-⟩:=J.own.aS;refine go ?_;refine fj _ (cZ (K:=5) (λ_=>rfl) hbk hy) U ?_;refine dt (SB (x:=x) (y:=y) (h3.ae xw) (h2.ae xw) (h6.ae xw) J hc hl) (λw2 q x2=>?_) λw2 q x2=>?_
  .rw[q] at he;exact aQ _ U ⟨.inr ⟨k,U,by rw[he];show some (0+k)=_;rw[as9]⟩,xw.trans x2⟩
  .rw[q] at he;refine Un ?_;rw[he];cases(l.drop (k+1)).findIdx? (wJ x cc.right) with
   |none=>rfl
   |some j=>show some (j+1+k)=some (j+(k+1));congr 1;omega
 .rw[as8 Y] at he;exact aQ _ U ⟨.inl ⟨U,he⟩,xw⟩
theorem Ak{i:Nat}{s:Int×List Cm}:s.2.length<=(vh x i s).2.length/\(vh x i s).2.length<=s.2.length+1:=by
 unfold vh;split
 .omega
 .split
  .omega
  .simp only;split
   .rw[List.length_modify,asU];omega
   .rw[asu,asU,auQ];omega
theorem CR{i:Nat}{s:Int×List Cm}(J:0<=s.1)(u:∀c∈s.2,0<=c.aC):(vh x i s).1<=s.1:=by
 unfold vh;split
 .omega
 .rename_i c z;have:=u c (asq z);split
  .omega
  .show s.1-min c.aC s.1<=s.1;omega
set_option maxRecDepth 8000 in
set_option maxHeartbeats 1000000 in
theorem Wi{d:aU}{Q:Int->Prop}{h:Int}{x:jd}{l:List Cm}(o:bu w0 w A n c 65 5 (l.flatMap bM))(hx:kJ d x=true)(hk3:x.kind=3)(G0:dK d Q h l)(hQ:Q x.aO->Q x.other)(hle:n<=400000):aK prog 321 #[aB A n c,.agg x.c.toArray] w (λv w'=>∃A' n' c',v=aB A' n' c'/\bu w0 w' A' n' c' 65 5 ((RX x l).flatMap bM)/\aj (λb=>A≠aL b) w w'/\nwJ w A A'):=by
 obtain⟨-,hxn,-⟩:=tw hx;have hl:l.length=n:=by have:=o.own.an;exact Ec
 apply aF func321 Z;refine box λb2 w1 h1=>?_;refine box λb3 w2 h2=>?_;have B2:=h1.aS.ae h2.ae;have B3:=h2.aS;have e2:=h1.au;have e3:=h2.au;have s1:=h1.size;have s2:=h2.size;have x02:=h1.ae.trans h2.ae;refine go ?_;refine alloc λb6 w3 h6=>?_;refine st1 h6.aS U λw4 B6 k4=>?_;have e6:=h6.au;have s6:=h6.size;have aq:=h6.ae.ag k4 λb hb _ e=>Y;have z4:=aq.size;refine HC (λ(_:Nat) (s:Int×List Cm) (b6:Nat)=>[(5,iv s.1),(6,ptr b6)]) (λj s b6 u=>aP u b6 3 [iv ((j:Int)-1)]/\(∃A' n' c',aP u b2 395 [aB A' n' c']/\bu w0 u A' n' c' 65 5 (s.2.flatMap bM)/\n'=s.2.length/\nwJ w A A')/\XL x j s=XL x l.length (x.n,l)/\dK d Q h s.2/\(0<=s.1/\s.1<=1073741824)/\j<=s.2.length/\s.2.length+j<=2*l.length/\aj (λb=>A≠aL b) w u/\aP u b3 62 x.c/\b3<b6) (λj _ _ _=>j) n (x.n,l) b6 ⟨U,U,Yt⟩ ⟨B6,⟨A,n,c,B2.ae aq,o.ag (x02.trans aq),hl.symm,.inl U⟩,by rw[hl],G0,by show 0<=x.n/\x.n<=_;omega,by show n<=l.length;omega,by show l.length+n<=_;omega,ax.any (x02.trans aq),B3.ae aq,Y⟩ U ?_;rintro G j s b6 u ⟨C6,⟨A2,n2,c2,C2,o2,bo,bk⟩,bp,GS,⟨af,db⟩,hj1,hj2,ku,C3,cS⟩;have zu:=ku.size;refine go ?_;refine cD (λhge=>?_) λhlt=>?_;rotate_left
 .have hj:j=0:=Y;subst hj;refine go ?_;refine aQ _ U ⟨A2,n2,c2,U,?_,ku,bk⟩;have e:RX x l=s.2:=by unfold RX;rw[<-bp];rfl
  rw[e];exact o2
 obtain⟨i,rfl⟩:∃i,j=i+1:=⟨j-1,Y⟩;rw[show((i+1:Nat):Int)-1=(i:Int) from Y] at C6|-;obtain⟨y,hy⟩:=gx s.2 i;have hyl:=GS.lit (asq hy);have av:∀b t cs,aP u b t cs->t≠65->A2≠aL b:=λb t cs hb hne e=>by obtain⟨xs,hb2⟩:=o2.PB.cells e;exact hne (hb.uniq hb2).1
 have a8:=av b2 _ _ C2 Yd;have a7:=av b3 _ _ C3 Yd;have a6:=av b6 _ _ C6 Yd;obtain⟨g,cg⟩:∃g,A2=aL g:=by
  rcases o2.form with⟨-,h0,-⟩|⟨g,h1,-⟩
  .omega
  .exact⟨g,h1⟩
 subst cg;obtain⟨rest,hbk,hbl,hnc⟩:=o2.own.aS;have hg0:=o2.new g U;have bA:∀b,b<w.heap.size->A≠aL b->b≠g:=λb hb hh e=>by
  subst e;rcases bk with q|q|⟨g',q,hg'⟩
  .exact hh q.symm
  .cases q
  .injection q with q;injection q with q;omega
 have ct:=cZ (K:=5) (λ_=>rfl) hbk hy;refine bR (oP [] [] [0,1,2,3,4,5,6,7]) [] (λz=>ax u z) mx Z (.refl _ _) ?_;refine fu _ (C2.ai U) Yt (.refl _ _) ?_;refine fu _ (C6.ai U) Yt (.refl _ _) ?_;refine idx i U Y ?_;refine bC ?_;refine fu _ (ct 1 _ U) Yt (.refl _ _) ?_;refine bC ?_;refine fu _ (C3.ai U) Yt (.refl _ _) ?_;refine cN (λq=>?_) λq=>?_
 .have bx:vh x i s=s:=by unfold vh;rw[hy];show(if y.aO≠x.aO then s else _)=s;rw[asp q]
  obtain⟨u7,ck⟩:∃u7,u7=u:=⟨_,U⟩;rw[<-ck] at C6 C2 C3 o2 ku|-;have k7:=ku;have o7:bu w0 u7 (aL g) n2 c2 65 5 ((vh x i s).2.flatMap bM):=by rw[bx];exact o2
  have hn7:n2=(vh x i s).2.length:=by rw[bx];exact bo
  have ay:=bk;have l7:=C6.lt;refine go ?_;refine alloc λb7 v1 q1=>?_;refine st1 q1.aS U λv2 D7 be=>?_;have e7:=q1.au;have t7:=q1.size;have ak:=q1.ae.ag be λb hb _ e=>Y;refine go ?_;refine st1 D7 U λv3 D7 b0=>?_;have J:=ak.ag b0 λb hb _ e=>Y;have hS:=dK.vh hx hk3 hQ (i:=i) af GS;have bw:=Ak (x:=x) (i:=i) (s:=s);have bT:=CR (x:=x) (i:=i) (s:=s) af λc hc=>(GS.yj c hc).2.2.2.2.1;have bE:=k7.size;exact yN i (vh x i s) b7 ⟨by rw[bx];rfl,U,Yt⟩ ⟨D7,⟨aL g,n2,c2,C2.ae J,o7.ag J,hn7,ay⟩,bp,hS.2,⟨hS.1,Y⟩,Y,Y,k7.ae J,C3.ae J,Y⟩ Y
 refine go ?_;refine st (v:=iv (y.aC-(min y.aC s.1))) hbk (by rw[hbl];omega) U λu2 hb2 k2 z2=>?_;have hb2:aP u2 g 65 ((s.2.set i {y with aC:=y.aC-(min y.aC s.1)}).flatMap bM++rest):=by rw[<-Lg (rest:=rest) hy (y:={y with aC:=y.aC-(min y.aC s.1)}) ⟨U,U,U,U⟩,show i*5+3=0+i*5+3 from Y];exact hb2
 have O:vh x i s=(s.1-(min y.aC s.1),match(s.2.set i {y with aC:=y.aC-(min y.aC s.1)}).findIdx? (wJ x y.right) with
   |some k=>(s.2.set i {y with aC:=y.aC-(min y.aC s.1)}).modify k λz=>{z with aC:=z.aC+(min y.aC s.1)}
   |none=>s.2.set i {y with aC:=y.aC-(min y.aC s.1)}++[{y with aO:=x.other,aC:=(min y.aC s.1)}]):=by
  unfold vh;rw[hy]
  show(if y.aO≠x.aO then s else _)=_
  rw[aso λh=>h q];rfl
 obtain⟨L,hL⟩:∃L,L=s.2.set i {y with aC:=y.aC-(min y.aC s.1)}:=⟨_,U⟩;rw[<-hL] at hb2 O;have bq:L.length=s.2.length:=by rw[hL,asU]
 have c8:L[i]? =some {y with aC:=y.aC-(min y.aC s.1)}:=by rw[hL,auq Y]
 have bI:=o2.ae.ag k2 λb hb _ e=>Y;have oL:bu w0 u2 (aL g) n2 c2 65 5 (L.flatMap bM):=⟨jH.iH hb2 (by rw[bz (K:=5) λ_=>rfl,bq,bo]) (by rw[asu,bz (K:=5) λ_=>rfl,bq];rw[asu,bz (K:=5) λ_=>rfl] at hbl;exact hbl) hnc o2.own.cap,bI,o2.new⟩
 have GL:dK d Q h L:=by have:=GS.rf;rw[hL];exact GS.set hy (n:=y.aC-(min y.aC s.1)) Y Y
 have C2:=C2.ah k2 (λe=>a8 (by rw[e]));have C3:=C3.ah k2 (λe=>a7 (by rw[e]));have C6:=C6.ah k2 (λe=>a6 (by rw[e]));have ku2:=ku.ag k2 λb hb hh=>bA b hb hh;refine go ?_;have bw:=Ak (x:=x) (i:=i) (s:=s);refine aJ (Wh (x:=x) C3 C2 C6 oL c8 Y Y) ?_;rintro _ u3 ⟨cp,x3⟩;obtain⟨C2,C3,C6⟩:=P9 x3 C2 C3 C6;have oL:=oL.ag x3;have hb3:=hb2.ae x3;have bt:=ku2.ae x3;rcases cp with⟨rfl,hf⟩|⟨k,rfl,hf⟩
 .refine cD (λq=>Y) λ_=>?_;rw[hf] at O;have hcl:=cZ (K:=5) (λ_=>rfl) hb3 c8;refine go ?_;refine alloc λb10 u4 a4=>?_;refine fg a4.aS λu5 V k5 z5=>?_;have dd:=a4.au;have t10:=a4.size;have V:aP u5 b10 65 (bM {y with aC:=y.aC-(min y.aC s.1)}):=V;have bG:ax u3 u5:=a4.ae.ag k5 λb hb _ e=>Y;refine go ?_;refine ld (iv x.other) ((C3.ae bG).ai U) ?_;refine go ?_;refine st (v:=iv x.other) V Yl rfl λu6 V k6 z6=>?_;have V:aP u6 b10 65 [iv y.right,iv x.other,iv y.aH,iv (y.aC-(min y.aC s.1)),iv y.cC]:=V;refine go ?_;refine st (v:=iv (min y.aC s.1)) V Yl rfl λu7 V k7' z7=>?_;have V:aP u7 b10 65 (bM {y with aO:=x.other,aC:=(min y.aC s.1)}):=V;have br:ax u3 u7:=(bG.ag k6 λb hb _ e=>Y).ag k7' λb hb _ e=>Y;refine ld (aB (aL g) n2 c2) ((C2.ae br).ai U) ?_;refine go ?_;refine lit [.agg (bM {y with aO:=x.other,aC:=(min y.aC s.1)}).toArray] λgg u8 hq=>?_;refine iI ((oL.ag br).ag hq.ae) (hq.src (sz:=5) U) Y λB' e' u9 o9 k9 cb=>?_;have aa:=br.trans hq.ae;have cw:=C2.lt;have zo:=o.ae.size;have cK:=(C2.ae aa).ah k9 a8;refine st1 cK U λu7 C2 bg=>?_;have cL:∀b,b<u3.heap.size->b≠g->B'≠aL b:=λb hb hh e=>by
   rcases cb with r|r|r
   .rw[r] at e;injection e with e;injection e with e;exact hh e.symm
   .rw[r] at e;cases e
   .rw[r] at e;injection e with e;injection e with e;have:=aa.size;omega
  have cI:b2≠g:=λe=>a8 (by rw[e]);have dp:b3≠g:=λe=>a7 (by rw[e]);have df:b6≠g:=λe=>a6 (by rw[e]);have C3:=((C3.ae aa).ah k9 a7).ah bg Y;have C6:=((C6.ae aa).ah k9 a6).ah bg Y;have k7:=(((bt.ae aa).ag k9 λb hb hh e=>by injection e with e;injection e with e;exact bA b hb hh e.symm)).ag bg λb hb _=>Y;have o7:bu w0 u7 B' (n2+1) e' 65 5 ((vh x i s).2.flatMap bM):=by rw[O,as7];exact o9.bY bg (λg' hg' e=>cL b2 cw cI (by rw[hg',e])) (o9.ae.ag bg λb hb _=>Y)
  have hn7:n2+1=(vh x i s).2.length:=by rw[O,asu,bq,bo];rfl
  have ay:nwJ w A B':=by
   rcases cb with r|r|r
   .rw[r];exact bk
   .exact .inr (.inl r)
   .refine .inr (.inr ⟨_,r,?_⟩);have:=(bt.size);have:=aa.size;omega
  have l7:=C6.lt;refine go ?_;refine alloc λb7 v1 q1=>?_;refine st1 q1.aS U λv2 D7 be=>?_;have e7:=q1.au;have t7:=q1.size;have ak:=q1.ae.ag be λb hb _ e=>Y;refine go ?_;refine st1 D7 U λv3 D7 b0=>?_;have J:=ak.ag b0 λb hb _ e=>Y;have hS:=dK.vh hx hk3 hQ (i:=i) af GS;have bw:=Ak (x:=x) (i:=i) (s:=s);have bT:=CR (x:=x) (i:=i) (s:=s) af λc hc=>(GS.yj c hc).2.2.2.2.1;have bE:=k7.size;exact yN i (vh x i s) b7 ⟨by rw[O];rfl,U,Yt⟩ ⟨D7,⟨B',n2+1,e',C2.ae J,o7.ag J,hn7,ay⟩,bp,hS.2,⟨hS.1,Y⟩,Y,Y,k7.ae J,C3.ae J,Y⟩ Y
 .refine cD (λ_=>?_) λq=>Y;rw[hf] at O;have O:vh x i s=(s.1-(min y.aC s.1),L.modify k λz=>{z with aC:=z.aC+(min y.aC s.1)}):=O;obtain⟨cr,-⟩:=auX.1 hf;obtain⟨v,hv⟩:=gx L k cr;have cT:=GL.lit (asq hv);rw[CE hv] at O;have hcl:=cZ (K:=5) (λ_=>rfl) hb3 hv;refine go ?_;refine st (v:=iv (v.aC+(min y.aC s.1))) hb3 (by rw[asu,bz (K:=5) λ_=>rfl];omega) U λu7 hb7 k8 z8=>?_;have hb7:aP u7 g 65 ((vh x i s).2.flatMap bM++rest):=by rw[O];show aP u7 g _ ((L.set k {v with aC:=v.aC+(min y.aC s.1)}).flatMap bM++rest);rw[<-Lg (rest:=rest) hv (y:={v with aC:=v.aC+(min y.aC s.1)}) ⟨U,U,U,U⟩,show k*5+3=0+k*5+3 from Y];exact hb7
  have hgl:(vh x i s).2.length=s.2.length:=by rw[O];show(L.set k _).length=_;rw[asU,bq]
  have C2:=C2.ah k8 (λe=>a8 (by rw[e]));have C3:=C3.ah k8 (λe=>a7 (by rw[e]));have C6:=C6.ah k8 (λe=>a6 (by rw[e]));have k7:=bt.ag k8 λb hb hh=>bA b hb hh;have o7:bu w0 u7 (aL g) n2 c2 65 5 ((vh x i s).2.flatMap bM):=⟨jH.iH hb7 (by rw[bz (K:=5) λ_=>rfl,hgl,bo]) (by rw[asu,bz (K:=5) λ_=>rfl,hgl];rw[asu,bz (K:=5) λ_=>rfl] at hbl;exact hbl) hnc o2.own.cap,oL.ae.ag k8 λb hb _ e=>Y,o2.new⟩
  have hn7:n2=(vh x i s).2.length:=by rw[hgl,bo]
  have ay:=bk;have l7:=C6.lt;refine go ?_;refine alloc λb7 v1 q1=>?_;refine st1 q1.aS U λv2 D7 be=>?_;have e7:=q1.au;have t7:=q1.size;have ak:=q1.ae.ag be λb hb _ e=>Y;refine go ?_;refine st1 D7 U λv3 D7 b0=>?_;have J:=ak.ag b0 λb hb _ e=>Y;have hS:=dK.vh hx hk3 hQ (i:=i) af GS;have bw:=Ak (x:=x) (i:=i) (s:=s);have bT:=CR (x:=x) (i:=i) (s:=s) af λc hc=>(GS.yj c hc).2.2.2.2.1;have bE:=k7.size;exact yN i (vh x i s) b7 ⟨by rw[O];rfl,U,Yt⟩ ⟨D7,⟨aL g,n2,c2,C2.ae J,o7.ag J,hn7,ay⟩,bp,hS.2,⟨hS.1,Y⟩,Y,Y,k7.ae J,C3.ae J,Y⟩ Y
end
variable {d:aU}
def aqO(d:aU)(c:Cm):Prop:=(0<=c.right/\c.right<d.bn.length)/\(0<=c.aO/\c.aO<d.aR.length)/\(0<=c.aH/\c.aH<d.aG)/\1<=c.aC/\∃y,d.bn[c.right.toNat]? =some y/\y.kind=1/\y.cC=c.cC
theorem wQ{b:Cm}(u:a.aH=b.aH):tf a.ti b.ti↔EZ a b=true:=by
 unfold EZ tf Cm.ti;rw[asy];simp only;omega
theorem SC{b:Cm}(u:a.aH<b.aH):tf a.ti b.ti:=by
 unfold tf Cm.ti;simp only;omega
theorem SD{b:Cm}(h:tf a.ti b.ti):a.aH<=b.aH:=by
 unfold tf Cm.ti at h;simp only at h;omega
variable {Q:Int->Int->Prop}
theorem GW{l:aX}{B:Int}(h:∀x∈l,x<=B):aV l<=l.length*B:=by
 induction l with
 |nil=>rw[nF];simp
 |cons a l u=>
  have h1:=u λx z=>h x (ast _ z);have A:=h a ass;rw[bK,as2,asA,atX];omega
theorem SE(A:fV d l)(hlen:l.length<=4096)(hQ:∀c∈l,Q c.aH c.aO){g:List Cm}(O:g.Sublist l)(M:∀c∈g,c.aH=h):dK d (Q h) h g:=by
 have hm:∀c∈g,c∈l:=λc A=>O.mem A;refine⟨λc u=>?_,?_,?_⟩
 .obtain⟨a1,a2,a3,a4,y,a5,a6,X⟩:=A.1 c (hm c u);exact⟨M c u,a1,a2,⟨y,a5,a6,X⟩,Y,M c u▸hQ c (hm c u)⟩
 .refine(A.2.sublist O).imp_of_mem λ{a b} W V J=>?_;rw[wQ ((M a W).trans (M b V).symm)] at J;unfold EZ at J;rw[asy] at J;obtain⟨-,-,-,-,y,a5,-,X⟩:=A.1 a (hm a W);obtain⟨-,-,-,-,z,b5,-,b7⟩:=A.1 b (hm b V);by_cases e:a.right=b.right
  .rw[e,b5] at a5;injection a5 with a5;subst a5;omega
  .exact .inl e
 .have h1:aV (iO g)<=(iO g).length*1073741824:=GW λx Z=>by obtain⟨c,u,rfl⟩:=asS.1 Z;exact(A.1 c (hm c u)).2.2.2.1.2
  have h2:(iO g).length<=4096:=Yg;omega
structure uz (d:aU) (Q:Int->Prop) (h:Int) (l:List Cm):Prop where
 PF:dK d Q h l
 one:∀c∈l,1<=c.aC
 srt:mH EZ l
theorem uz.exc{P:Int->Prop}{h:Int}:∀{js:List jd} {l:List Cm},(∀x∈js,kJ d x=true/\(x.kind=3->P x.aO->P x.other))->uz d P h l->uz d P h (pE js l)
 |[],_,_,G=>G
 |x::js,l,z,G=>by
  have h1:=z x ass
  have u:=G.PF.abY h1.1 h1.2
  exact uz.exc (js:=js) (l:=GN (sf x l)) (λy A=>z y (ast _ A)) ⟨u.tid.1,u.tid.2,u.srt⟩
theorem OR(p:Cm->Bool):(l.takeWhile p).Sublist l:=(List.takeWhile_prefix p).sublist
theorem yy(p:Cm->Bool):(l.dropWhile p).Sublist l:=(List.dropWhile_suffix p).sublist
theorem tz{p:Cm->Bool}:∀{l:List Cm} {c:Cm},c∈l.takeWhile p->p c=true
 |[],_,h=>by cases h
 |a::l,c,h=>by
  rw[au7] at h
  split at h
  .rename_i u
   rcases asM.1 h with rfl|h
   .exact u
   .exact tz h
  .cases h
theorem I1{c:Cm}:∀{l:List Cm},(l.Pairwise λa b:Cm=>tf a.ti b.ti)->(∀y∈l,c.aH<=y.aH)->∀y∈l.dropWhile λy=>decide (y.aH=c.aH),c.aH<y.aH
 |[],_,_,y,u=>by cases u
 |a::l,hs,A,y,u=>by
  rw[atE] at hs
  rw[auC] at u
  split at u
  .exact I1 hs.2 (λz J=>A z (ast _ J)) y u
  .rename_i M
   rw[asy] at M
   have h1:=A a ass
   rcases asM.1 u with rfl|u
   .omega
   .have:=SD (hs.1 y u);omega
theorem fV.sub{u:List Cm}(h:fV d l)(hs:u.Sublist l):fV d u:=⟨λc z=>h.1 c (hs.mem z),h.2.sublist hs⟩
theorem MT{j:List jd}(hj:∀h,∀x∈mV j h,kJ d x=true/\(x.kind=3->Q h x.aO->Q h x.other)):∀{f:Nat} {l:List Cm},l.length<=f->l.length<=4096->fV d l->(∀c∈l,Q c.aH c.aO)->(∀x∈CC j f l,(∃c∈l,x.aH=c.aH)/\aqO d x/\Q x.aH x.aO)/\(CC j f l).Pairwise λa b=>tf a.ti b.ti
 |0,_,_,_,_,_=>⟨λx z=>(by cases z),.nil⟩
 |_+1,[],_,_,_,_=>⟨λx z=>(by cases z),.nil⟩
 |f+1,c::l,hf,hl,A,hQ=>by
  unfold CC
  obtain⟨g,Z⟩:∃g,g=(c::l).takeWhile λy=>decide (y.aH=c.aH):=⟨_,rfl⟩
  obtain⟨r,W⟩:∃r,r=(c::l).dropWhile λy=>decide (y.aH=c.aH):=⟨_,rfl⟩
  rw[<-Z,<-W]
  have gs:=Z▸OR _
  have rs:=W▸yy _
  have gh:∀y∈g,y.aH=c.aH:=λy u=>by rw[Z] at u;exact att (tz u)
  have G:uz d (Q c.aH) c.aH g:=by
   refine⟨SE A hl hQ gs gh,λy u=>(A.1 y (gs.mem u)).2.2.2.1.1,?_⟩
   exact(A.2.sublist gs).imp_of_mem λ{a b} V O J=>(wQ ((gh a V).trans (gh b O).symm)).1 J
  have M:=G.exc (hj c.aH)
  have rl:r.length<=l.length:=by
   rw[W,auC,asp (asE U)]
   exact(yy _).length_le
  have a8:(c::l).length=l.length+1:=U
  obtain⟨i1,i2⟩:=MT hj (f:=f) (l:=r) Y Y (A.sub rs) λy u=>hQ y (rs.mem u)
  have X:∀y∈r,c.aH<y.aH:=by
   rw[W]
   refine I1 A.2 λy u=>?_
   rcases asM.1 u with rfl|u
   .exact asO _
   .exact SD ((atE.1 A.2).1 y u)
  have a7:=(A.1 c ass).2.2.1
  refine⟨λx z=>?_,?_⟩
  .rcases atf.1 z with z|z
   .obtain⟨a1,a2,a3,a4,a5,a6⟩:=M.PF.yj x z
    exact⟨⟨c,ass,a1⟩,⟨a2,a3,by rw[a1];exact a7,M.one x z,a4⟩,by rw[a1];exact a6⟩
   .obtain⟨⟨y,u,e⟩,h2⟩:=i1 x z
    exact⟨⟨y,rs.mem u,e⟩,h2⟩
  .rw[atH]
   refine⟨?_,i2,λa V b O=>?_⟩
   .exact M.srt.imp_of_mem λ{a b} V O J=>(wQ (((M.PF.yj a V).1).trans ((M.PF.yj b O).1).symm)).2 J
   .obtain⟨⟨y,u,e⟩,-⟩:=i1 b O
    have h1:=X y u
    have h2:=(M.PF.yj a V).1
    exact SC Y
theorem I2(z:x∈mV j h):x∈j/\x.fI=0/\x.aH<=h:=by
 obtain⟨h1,u⟩:=at6.1 z;unfold K8 at u;rw[asv,asv,asy,asy] at u;exact⟨h1,u.1,u.2.1⟩
theorem nn{c:List Cm}:iq d c j=0↔fC d j=0/\ez d c=0/\(ym j c).length<=4096/\(ym j c).all zF=true:=by
 unfold iq;by_cases h1:fC d j=0
 .exact Yg
 .exact Yg
theorem acr{c:List Cm}(h:iq d c j=0)(V:∀x∈c,Q x.aH x.aO)(M:∀h f g:Int,(jh d f.toNat).aZ=(jh d g.toNat).aZ->Q h g->Q h f):fV d (ym j c)/\(∀x∈ym j c,(∃y∈c,x.aH=y.aH)/\Q x.aH x.aO):=by
 obtain⟨h1,X,h3,W⟩:=nn.1 h;obtain⟨-,g2,g3⟩:=iB.1 X;have O:∀h,∀x∈mV j h,kJ d x=true/\(x.kind=3->Q h x.aO->Q h x.other):=λh x u=>by obtain⟨a,b,-⟩:=I2 u;have J:=tv (IP.1 h1).2.2 x a b;exact⟨J,λhk=>M h _ _ ((tw J).2.2 hk).2.2⟩
 obtain⟨A,Y⟩:=MT O (asN c.length) g2 g3 V;refine⟨⟨λx u=>?_,Y⟩,λx u=>⟨(A x u).1,(A x u).2.2⟩⟩;obtain⟨-,⟨Z,a2,a3,a4,a5⟩,-⟩:=A x u;have z:=asH.1 W x u;unfold zF at z;rw[asy] at z;exact⟨Z,a2,a3,⟨a4,z⟩,a5⟩
theorem lR:∀{zs:List Cm},((zs.flatMap bM).all λu=>u.oneCell')=true
 |[]=>rfl
 |z::zs=>by rw[ata,avZ,lR];rfl
theorem I4{p:Cm->Bool}:∀{r:List Cm} {k:Nat} {y:Cm},(∀z∈r.take k,p z=true)->r[k]? =some y->p y=false->r.takeWhile p=r.take k/\r.dropWhile p=r.drop k
 |[],k,y,_,h,_=>by simp at h
 |a::r,0,y,_,h,u=>by
  simp at h;subst h
  rw[au7,auC,u];exact⟨rfl,rfl⟩
 |a::r,k+1,y,h1,h,u=>by
  have O:=h1 a ass
  obtain⟨J,i2⟩:=I4 (p:=p) (r:=r) (k:=k) (y:=y) (λz M=>h1 z (ast _ M)) (by simpa using h) u
  rw[au7,auC,O,asp rfl,asp rfl,J,i2];exact⟨rfl,rfl⟩
theorem Fb{p:Cm->Bool}:∀{r:List Cm},(∀z∈r,p z=true)->r.takeWhile p=r/\r.dropWhile p=[]
 |[],_=>⟨rfl,rfl⟩
 |a::r,h1=>by
  have M:=h1 a ass
  obtain⟨u,i2⟩:=Fb (p:=p) (r:=r) λz J=>h1 z (ast _ J)
  rw[au7,auC,M,asp rfl,asp rfl,u,i2];exact⟨rfl,rfl⟩
theorem dK.an{Q:Int->Prop}(G:dK d Q h l)(hd:cH d=0):l.length<=153600:=by
 obtain⟨m1,m2,m3,m4⟩:=jO hd;have z:(l.map λc=>(c.right,c.aO)).Nodup:=by
  rw[atw,atN];refine G.EJ.imp λ{a b} J e=>?_;injection e with X W;rcases J with q|q
  .exact q X
  .exact q W
 have u:∀t∈l.map λc=>(c.right,c.aO),t∈(List.range d.bn.length).flatMap λ(r:Nat)=>(List.range d.aR.length).map λ(f:Nat)=>((r:Int),(f:Int)):=λt M=>by obtain⟨c,O,rfl⟩:=asS.1 M;obtain⟨-,a1,a2,-⟩:=G.yj c O;refine auF.2 ⟨c.right.toNat,as0.2 Y,asS.2 ⟨c.aO.toNat,as0.2 Y,?_⟩⟩;rw[show((c.right.toNat:Nat):Int)=c.right from Y,show((c.aO.toNat:Nat):Int)=c.aO from Y]
 have h1:=wm z u;rw[asz] at h1;have V:((List.range d.bn.length).flatMap λ(r:Nat)=>(List.range d.aR.length).map λ(f:Nat)=>((r:Int),(f:Int))).length<=(List.range d.bn.length).length*d.aR.length:=wO λr _=>by rw[asz,as3];exact asN _
 rw[as3] at V;have Z:=atK m3 m2;omega
theorem OS{js:List jd}:pE (js++[x]) l=GN (sf x (pE js l)):=by unfold pE;rw[aud];rfl
section
variable {D:Nat->Prop} {w:World} {A:Option Addr} {n c:Nat}
theorem pF{zs:List Cm}(hs:Src w A n 5 (zs.flatMap bM))(hn:n<=1000000):aK prog 170 #[aB A n c] w (λv w'=>∃A' c',v=aB A' n c'/\bu w w' A' n c' 65 5 (zs.flatMap bM)):=by
 refine aF func170 Z<|KT (λhA=>?_) λhA=>?_
 .subst hA;have h0:n=0:=adA
  subst h0;have hx:zs.flatMap bM=[]:=asL (by have:=hs.1;omega);exact adC
 .refine lit [] λg w1 h1=>?_;have o1:bu w w1 (aL g) 0 0 65 5 []:=bu.lit (.refl _ _) h1 U;refine iI o1 (hs.OC h1.ae) Y (λA' c' w2 o2 k2 J=>?_) (h1:=lR);exact adw
theorem I5{r:List Cm}{O:Nat}(Y:aP w O 58 [aB A n c])(hs:bS uQ D w A n l)(u:l=a::r):aA 241 #[.agg (bM y).toArray,ptr O] w (.bool (!decide (y.aH=a.aH))):=by
 have M:=hs.an;refine aF func241 Z<|box λb2 V h1=>?_;have B2:=h1.aS;obtain⟨bb,oo,cs,z,rfl,J,-,-,X,rfl⟩:=(hs.ae h1.ae).au (k:=0) (by rw[<-M,u];exact Nat.zero_lt_succ _);obtain rfl:a=z:=by rw[u] at J;injection J
 apply bR (oP [] [] [0,1,2,3,4,5,6,7]) [] (λz=>ax V z) mx Z (.refl _ _);refine go ?_;refine fu _ ((Y.ae h1.ae).ai U) Yt (.refl _ _) ?_;refine idx 0 U (by rw[<-M,u];exact Nat.zero_lt_succ _) ?_;refine bC ?_;refine fu _ (X 2 _ U) Yt (.refl _ _) ?_;refine cN (λq=>?_) λq=>?_
 .exact aQ _ U ⟨by rw[asG q];rfl,h1.ae⟩
 .exact aQ _ U ⟨by rw[asE q];rfl,h1.ae⟩
theorem Wj{r:List Cm}{b4:Nat}(h4:aP w b4 58 [aB A n c])(hs:bS uQ D w A n l)(hl:l=a::r):aK prog 161 #[aB A n c,.func (.func 241) #[] #[ptr b4]] w (λv w'=>((v=iv (-1)/\l.takeWhile (λy=>decide (y.aH=a.aH))=l/\l.dropWhile (λy=>decide (y.aH=a.aH))=[])\/∃k:Nat,v=iv (k:Int)/\k<n/\l.takeWhile (λy=>decide (y.aH=a.aH))=l.take k/\l.dropWhile (λy=>decide (y.aH=a.aH))=l.drop k)/\ax w w'):=by
 have hn:=hs.an;have hle:=hs.le;refine aF func161 Z ?_;refine an ?_;refine aM (λk:Nat=>[(8,iv (k:Int))]) (λk u=>k<=n/\ax w u/\∀z∈l.take k,decide (z.aH=a.aH)=true) (λk _=>n-k) 0 ⟨U,Yt⟩ ⟨Y,.refl _ _,λz hz=>by rw[atg] at hz;cases hz⟩ U ?_;rintro G k u ⟨hk,xw,he⟩;refine cD (λhlt=>?_) λhge=>?_
 .obtain⟨bb,oo,cs,y,rfl,hy,-,-,hc,rfl⟩:=(hs.ae xw).au (show k<n from Y);refine go ?_;refine dt (I5 (y:=y) (h4.ae xw) (hs.ae xw) hl) (λw2 q x2=>?_) λw2 q x2=>?_
  .simp only[atj] at q;obtain⟨e1,e2⟩:=I4 (p:=λy=>decide (y.aH=a.aH)) he hy q;exact aQ _ U ⟨.inr ⟨k,U,Y,e1,e2⟩,xw.trans x2⟩
  .exact aoo
 .rw[asx Y] at he;obtain⟨e1,e2⟩:=Fb he;exact aQ _ U ⟨.inl ⟨U,e1,e2⟩,xw⟩
theorem I7:aA 244 #[.agg (bM y).toArray] w (.bool (!zF y)):=by
 refine aF func244 Z<|box λJ z h1=>?_;have M:=h1.aS;refine go<|cD (λq=>?_) λq=>?_
 .exact aQ _ U ⟨by unfold zF;rw[asG Y];rfl,h1.ae⟩
 .exact aQ _ U ⟨by unfold zF;rw[asE Y];rfl,h1.ae⟩
theorem Wk(o:bu w0 w A n c 65 5 (l.flatMap bM))(hn:n<=100000000):aK prog 161 #[aB A n c,.func (.func 244) #[] #[]] w (λv w'=>(∃i:Int,v=iv i/\(i>=0↔l.all zF=false))/\ax w w'):=by
 have hl:l.length=n:=by have:=o.own.an;exact Ec
 apply aF func161 Z;apply an;apply aM (λk:Nat=>[(8,iv (k:Int))]) (λk w'=>k<=n/\ax w w'/\l.all zF=(l.drop k).all zF) (λk _=>n-k) 0 ⟨U,Yt⟩ ⟨Y,.refl _ _,U⟩ U;rintro G k w' ⟨hk,xw,he⟩;refine cD (λhlt=>?_) λhge=>?_
 .refine adN ?_;intro y hy hdk;rw[hdk,atv] at he;have J:=o.ag xw;rcases J.form with⟨-,h0,-⟩|⟨g,rfl,hg0,hgl,hnc⟩
  .omega
  obtain⟨rest,hbk,hbl,-⟩:=J.own.aS;refine go ?_;refine fj _ (cZ (K:=5) (λ_=>rfl) hbk hy) U ?_;refine dt (I7 (y:=y)) (λw2 g x2=>?_) λw2 g x2=>?_
  .exact TN
  .exact T7
 .exact W6
theorem SF{l:List Cm}{w0:World}(o:bu w0 w A n c 65 5 (l.flatMap bM))(J:n<=100000000):aA 71 #[aB A n c,.func (.func 244) #[] #[]] w (.bool (!l.all zF)):=by
 refine aF func71 Z<|aJ (Wk o J) ?_;rintro _ z ⟨⟨i,rfl,hi⟩,u⟩;refine cD (λg=>?_) λg=>?_
 .exact aQ _ U ⟨by rw[hi.1 g];rfl,u⟩
 .refine aQ _ U ⟨?_,u⟩;cases q:l.all zF with
  |true=>rfl
  |false=>exact absurd (hi.2 q) g
end
theorem CS{d:aU}:∀{l:List jd} {o:Int->Bool} {a b:Int},lk d o a b l=true->∀x∈l,0<=x.no/\x.no<=1048576
 |[],_,_,_,_,_,u=>by cases u
 |y::l,o,a,b,h,x,u=>by
  unfold lk at h
  rw[asv,asv,asv] at h
  rcases asM.1 u with rfl|u
  .exact bO.1 h.1.1
  .have h:=h.2.2
   split at h
   .rw[asv] at h;exact CS h.2 x u
   .rw[asv] at h;exact CS h.2 x u
theorem Fc{j:List jd}:∀{f g:Nat} {l:List Cm},l.length<=f->l.length<=g->CC j f l=CC j g l
 |0,0,_,_,_=>rfl
 |0,g+1,l,h,_=>by rw[asL (by omega:l.length=0)];rfl
 |f+1,0,l,_,h=>by rw[asL (by omega:l.length=0)];rfl
 |f+1,g+1,[],_,_=>rfl
 |f+1,g+1,c::l,h1,J=>by
  unfold CC
  have u:((c::l).dropWhile λy=>decide (y.aH=c.aH)).length<=l.length:=by
   rw[auC,asp (asE U)]
   exact(yy _).length_le
  have z:(c::l).length=l.length+1:=U
  rw[Fc (f:=f) (g:=g) Y Y]
section
variable {P:Program} {X:XK}
theorem OT{t t2 e M:TypeId}{sz u:Nat}[h:cu P t e sz][J:cu P t2 M u]{ty:TypeId}{a b:Value}{w:World}:(Builtin.append_ #[t,t2] ty #[a,b]).run P w=(Builtin.append_ #[t,t] ty #[a,b]).run P w:=by
 obtain⟨hu,-⟩:=dF h.h;obtain⟨z,-⟩:=dF J.h;unfold Builtin.append_;simp[asX hu];cases a<;>simp[asX hu,asX z]
theorem acu{t t2 e J:TypeId}{sz z:Nat}[h:cu P t e sz][M:cu P t2 J z]{ty:TypeId}{u:Array Bool}{a b:Value}{w:World}{K:VK}(k:DE P .append #[t,t] ty u #[a,b] K X w):DE P .append #[t,t2] ty u #[a,b] K X w:=by
 rw[nZ] at*;intro w0 hw;have k:=k w0 hw;rw[show builtin .append #[t,t] ty u #[a,b]=vS (Builtin.append_ #[t,t] ty #[a,b]) from U,gG] at k;rw[show builtin .append #[t,t2] ty u #[a,b]=vS (Builtin.append_ #[t,t2] ty #[a,b]) from U,gG,OT];exact k
end
section
variable {w:World} {A A0:Option Addr} {n c n0 c0:Nat}
set_option maxRecDepth 8000 in
set_option maxHeartbeats 1000000 in
theorem Lh{bI:aW}{d:aU}{l:List Cm}{js:List jd}(hd:iG (λb=>b<w.heap.size) w bI d)(hl:bS uQ (λb=>b<w.heap.size) w A n l)(bE:n<=c)(hj:bS wI (λb=>b<w.heap.size) w A0 n0 js):aK prog 169 #[.agg bI.toArray,aB A n c,aB A0 n0 c0] w (λv w'=>ax w w'/\∃A' n' c',v=.tuple #[aB A' n' c',iv (iq d l js)]/\(iq d l js=0->bu w w' A' n' c' 65 5 ((ym js l).flatMap bM))):=by
 have hd0:=hd;have dO:=hl.an;obtain⟨A1,n1,c1,A2,n2,c2,A3,n3,c3,A4,n4,c4,A5,n5,c5,A6,n6,c6,rfl,-⟩:=hd.ex;refine aF func169 Z<|box λb3 w1 h1=>box λb4 w2 h2=>?_;have e1:=h1.au;have e2:=h2.au;have s1:=h1.size;have s2:=h2.size;have B3:=h1.aS.ae h2.ae;have B4:aP w2 b4 58 [aB A n c]:=h2.aS;have x02:=h1.ae.trans h2.ae;refine go<|bW (Fa (hd0.ae x02) (hj.ae x02)) λw3 x3=>?_;obtain⟨B3,B4⟩:=zQ x3 B3 B4;have x03:=x02.trans x3;obtain⟨er,her⟩:∃er,er=fC d js:=⟨_,U⟩;rw[<-her];refine cN (λq=>?_) λq=>?_
 .have e0:iq d l js=er:=by unfold iq;rw[<-her,asp q]
  exact ret ⟨x03,none,0,0,by rw[e0];rfl,λh0=>absurd (e0.symm.trans h0) q⟩
 have br:fC d js=0:=Y;refine go<|bW (tu (hd0.ae x03) (hl.ae x03)) λw4 x4=>?_;obtain⟨B3,B4⟩:=zQ x4 B3 B4;have x04:=x03.trans x4;obtain⟨cS,av⟩:∃er,er=ez d l:=⟨_,U⟩;rw[<-av];refine cN (λq2=>?_) λq2=>?_
 .have e0:iq d l js=cS:=by unfold iq;rw[aso (by simpa using br),<-av,asp q2]
  exact ret ⟨x04,none,0,0,by rw[e0];rfl,λh0=>absurd (e0.symm.trans h0) q2⟩
 have ay:ez d l=0:=Y;have bp:iq d l js=if 4096<(ym js l).length\/(ym js l).all zF=false then 2 else 0:=by unfold iq;rw[aso (by simpa using br),aso (by simpa using ay)]
 obtain⟨hd00,hl4,hok⟩:=iB.1 ay;obtain⟨-,-,bx⟩:=IP.1 br;have hno:=CS bx;have hjv:∀h,∀x∈mV js h,kJ d x=true/\(x.kind=3->True->True):=λh x hx=>by obtain⟨a,b,-⟩:=I2 hx;exact⟨tv bx x a b,λ_ _=>Yt⟩
 apply aJ Sz;rintro _ w5 ⟨gk,fk,rfl,ec,x5,MK,f1,f2,f3,f4⟩;refine alloc λb8 w6 h6=>st1 h6.aS U λw7 B8 k7=>?_;have e8:=h6.au;have s8:=h6.size;have ak:ax w5 w7:=h6.ae.ag k7 λb hb _ e=>Y;have be:=(x04.trans x5).trans ak;obtain⟨B3,B4⟩:=zQ (x5.trans ak) B3 B4;have MK:=MK.ah ak Yt;have z3:=x3.size;have z4:=x4.size;have z5:=x5.size;have z7:=ak.size;have l8:=B8.lt;have dx:=MK.lt;refine Xr (λ(_:List Cm) (v:Value)=>[(6,v)]) (λr v ds u=>aj (λb=>b≠b4) w7 u/\(∃A' n' c',aP u b4 58 [aB A' n' c']/\bS uQ (λb=>b<w.heap.size) u A' n' r/\n'<=c')/\r.Sublist l/\(∃B m cm R,v=aB B m cm/\bu w u B m cm 65 5 (R.flatMap bM)/\(∀g,B=aL g->w7.heap.size<=g)/\R++CC js r.length r=ym js l/\R.length<=(l.length-r.length)*153600)/\Marks w7.heap.size ds u) (λr _ _=>r.length) l (aY) ⟨U,Yt⟩ ⟨.refl _ _,⟨A,n,c,B4,hl.ae be,bE⟩,List.Sublist.refl _,⟨none,0,0,[],U,bu.nil be,λg hg=>by(cases hg),U,atc _⟩,Yt⟩ ?_;rintro G r v ds u ⟨ku,⟨A',n',c',C4,hs,hnc'⟩,hsub,⟨B,m,cm,R,rfl,oR,hBn,hR,bG⟩,hmk⟩;have zu:=ku.size;have af:ax w u:=be.ag ku λb hb _=>Y;have C3:aP u b3 31 [.string d.name,iv d.aG,iv d.cap,iv d.bH,aB A1 n1 c1,aB A2 n2 c2,aB A3 n3 c3,aB A4 n4 c4,aB A5 n5 c5,aB A6 n6 c6]:=B3.ah ku Y;have C8:=B8.ah ku Y;have MKu:=MK.ah ku Y;have bw:=hs.an;have dy:m=R.length:=by have:=oR.own.an;exact Ec
 have hrl:=hsub.length_le;refine go<|cD (λeb=>?_) λhle=>?_
 .obtain⟨a,r',hr⟩:∃a r',r=a::r':=by
   cases hq:r with
   |nil=>rw[hq] at bw;exact absurd bw (by show¬0=n';omega)
   |cons a r'=>exact⟨a,r',U⟩
  refine go<|aJ (Wj C4 hs hr) ?_;rintro _ u1 ⟨cI,x1⟩;rcases cI with⟨rfl,ht,hdw⟩|⟨k,rfl,hkn,ht,hdw⟩
  .refine cD (λ_=>?_) λq=>absurd Yd q;refine ld (aB A' n' c') ((C4.ae x1).ai U)<|an ?_;obtain⟨k,hkk⟩:∃k,k=n':=⟨_,U⟩;have hkn:k<=n':=Y;have ht:r.takeWhile (λy=>decide (y.aH=a.aH))=r.take k:=by rw[ht,asx Y]
   have hdw:r.dropWhile (λy=>decide (y.aH=a.aH))=r.drop k:=by rw[hdw,as8 Y]
   rw[<-hkk];have hk1:1<=k:=aoO
   have dp:=C4.ae x1;refine go ?_;refine Km (a:=uQ) 0 k (hs.ae x1) hnc' U rfl Y hkn U λA8 h8=>?_;have O:=am3 (h8 _ _ (hs.ae x1));rw[at3] at O;have bo:n'<=4096:=Y;refine aJ (pF O Y) ?_;rintro _ u2 ⟨A9,c9,rfl,o9⟩;have hG:r.take k=(a::r').takeWhile λy=>decide (y.aH=a.aH):=by rw[<-hr,ht]
   have gs:(r.take k).Sublist l:=(auT _ _).trans hsub;have gh:∀y∈r.take k,y.aH=a.aH:=λy hy=>by rw[hG] at hy;exact att (tz hy)
   have GI:uz d (λ_=>True) a.aH (r.take k):=aov
   have x2:=o9.ae;refine alloc λb10 u3 a3=>st1 a3.aS U λu4 B10 k4=>?_;have db:=a3.au;have t10:=a3.size;have V:ax u2 u4:=a3.ae.ag k4 λb hb _ e=>Y;have a6:=(x1.trans x2).trans V;have df:=C4.ae a6;obtain⟨bb,oo,cs,a',bq,ha',-,-,cL,rfl⟩:=(hs.ae a6).au (k:=0) Y;obtain rfl:a=a':=by rw[hr] at ha';injection ha'
   subst bq;refine go<|aJ CQ ?_;rintro _ u5 ⟨b1,b2,rfl,J,D1,D2,ct,cr⟩;have xu5:=a6.trans J;have y1:=x1.size;have y2:=x2.size;have y4:=V.size;have y5:=J.size;have ld1:=D1.lt;have cp:=D2.lt;have cw:=B10.lt;have B10:=B10.ae J;have o9lt:∀g,A9=aL g->g<u2.heap.size/\u1.heap.size<=g:=λg hg=>X0
   have o9w:bu w u5 A9 k c9 65 5 ((r.take k).flatMap bM):=(o9.base (af.trans x1)).ag (V.trans J);refine range (gf:=323) (lb:=#[ptr b1,ptr b2]) U λfn tmps v6 RL hRL hF bk x6 z6 hD6 hl6=>?_;show aK _ _ #[.func (.yield (u5.heap.size+1)) #[] #[],ptr b1,ptr b2] v6 _;have b0:=(af.trans xu5).trans x6;have tyD:∀(z:World) (B:bZ) (nb cb:Nat) (L:aW) (b:Nat) (t:TypeId) (cs:aW),bu w z B nb cb 65 5 L->aP z b t cs->t≠65->B≠aL b:=λz B nb cb L b t cs ho hb hne e=>by obtain⟨xs,hb2⟩:=ho.PB.cells e;exact hne (hb.uniq hb2).1
   refine(za (D:=λb=>b=b1\/b=b2\/b<w.heap.size) (D':=λb=>b<w.heap.size) (λmm z=>aj (λx=>x≠b10/\x≠u5.heap.size+1/\A9≠aL x) v6 z/\dc z (u5.heap.size+1) RL/\∃Ad nd cd,aP z b10 395 [aB Ad nd cd]/\bu w z Ad nd cd 65 5 ((pE ((mV js a.aH).take mm) (r.take k)).flatMap bM)/\(∀g,Ad=aL g->A9=aL g\/v6.heap.size<=g)) (λmm z z' ⟨k5,l5,Ad,nd,cd,q5,o5,nn5⟩ kk=>⟨k5.ag kk λ_ _ _=>Yt,l5.ah kk Yt,Ad,nd,cd,q5.ae kk,o5.ag kk,nn5⟩) ?_ (.inl U) (.inr (.inl U)) (λb hb=>.inr (.inr hb)) (D1.ae x6) (D2.ae x6) (hj.ae b0) hno ⟨.refl _ _,hl6,A9,k,c9,B10.ae x6,o9w.ag x6,λg hg=>.inl hg⟩).mono ?_
   .rintro mm x z hx ⟨k5,l5,Ad,nd,cd,q5,o5,nn5⟩;subst hRL;have bg:=asq hx;have hjx:=hjv _ x bg;obtain⟨cK,hxn,-⟩:=tw hjx.1;have GIm:uz d (λ_=>True) a.aH (pE ((mV js a.aH).take mm) (r.take k)):=GI.exc λy hy=>hjv _ y (asW hy);have Gd:=GIm.PF.abY hjx.1 λh q=>Yt;have hcl:=GIm.PF.an hd00;have bA:nd=(pE ((mV js a.aH).take mm) (r.take k)).length:=by have:=o5.own.an;exact Ec
    have bT:=k5.size;refine dQ (args:=[.agg x.c.toArray]) l5 U rfl hF bk<|alloc λbt z1 a1=>jR a1.aS U Yl Ys λz2 a7 k2 ck=>?_;have cT:=a1.au;have t11:=a1.size;have a8:=a1.ae.ag k2 λb hb _ e=>Y;refine tN (l5.ah a8 Yt) λz4 aa cg lz=>?_;have kzz:=(ax.any a8).trans aa;have k56:=k5.ag kzz λ_ _ hh=>hh.2.1;have c8:=kzz.size;have y6:=x6.size;have adlb:∀g,Ad=aL g->g≠u5.heap.size+1:=λg hg=>Uj
    have qz:=q5.ah kzz Y;have oz:=o5.bY kzz adlb (o5.ae.ag kzz λb hb _=>Y);have a7:=a7.ah aa Y;have n9o:∀b,b<u1.heap.size->A9≠aL b:=λb hb e=>by have:=o9lt _ e;omega
    have dd:=(((C8.ae xu5).ae x6).ah k56 ⟨Y,Y,n9o b8 Y⟩);exact Y1
   .exact g_1
  .refine cD (λq=>Y) λ_=>?_;have hkn:k<=n':=Y;have hk1:1<=k:=aoO
   have dp:=C4.ae x1;refine go ?_;refine Km (a:=uQ) 0 k (hs.ae x1) hnc' U rfl Y hkn U λA8 h8=>?_;have O:=am3 (h8 _ _ (hs.ae x1));rw[at3] at O;have bo:n'<=4096:=Y;refine aJ (pF O Y) ?_;rintro _ u2 ⟨A9,c9,rfl,o9⟩;have hG:r.take k=(a::r').takeWhile λy=>decide (y.aH=a.aH):=by rw[<-hr,ht]
   have gs:(r.take k).Sublist l:=(auT _ _).trans hsub;have gh:∀y∈r.take k,y.aH=a.aH:=λy hy=>by rw[hG] at hy;exact att (tz hy)
   have GI:uz d (λ_=>True) a.aH (r.take k):=aov
   have x2:=o9.ae;refine alloc λb10 u3 a3=>st1 a3.aS U λu4 B10 k4=>?_;have db:=a3.au;have t10:=a3.size;have V:ax u2 u4:=a3.ae.ag k4 λb hb _ e=>Y;have a6:=(x1.trans x2).trans V;have df:=C4.ae a6;obtain⟨bb,oo,cs,a',bq,ha',-,-,cL,rfl⟩:=(hs.ae a6).au (k:=0) Y;obtain rfl:a=a':=by rw[hr] at ha';injection ha'
   subst bq;refine go<|aJ CQ ?_;rintro _ u5 ⟨b1,b2,rfl,J,D1,D2,ct,cr⟩;have xu5:=a6.trans J;have y1:=x1.size;have y2:=x2.size;have y4:=V.size;have y5:=J.size;have ld1:=D1.lt;have cp:=D2.lt;have cw:=B10.lt;have B10:=B10.ae J;have o9lt:∀g,A9=aL g->g<u2.heap.size/\u1.heap.size<=g:=λg hg=>X0
   have o9w:bu w u5 A9 k c9 65 5 ((r.take k).flatMap bM):=(o9.base (af.trans x1)).ag (V.trans J);refine range (gf:=323) (lb:=#[ptr b1,ptr b2]) U λfn tmps v6 RL hRL hF bk x6 z6 hD6 hl6=>?_;show aK _ _ #[.func (.yield (u5.heap.size+1)) #[] #[],ptr b1,ptr b2] v6 _;have b0:=(af.trans xu5).trans x6;have tyD:∀(z:World) (B:bZ) (nb cb:Nat) (L:aW) (b:Nat) (t:TypeId) (cs:aW),bu w z B nb cb 65 5 L->aP z b t cs->t≠65->B≠aL b:=λz B nb cb L b t cs ho hb hne e=>by obtain⟨xs,hb2⟩:=ho.PB.cells e;exact hne (hb.uniq hb2).1
   refine(za (D:=λb=>b=b1\/b=b2\/b<w.heap.size) (D':=λb=>b<w.heap.size) (λmm z=>aj (λx=>x≠b10/\x≠u5.heap.size+1/\A9≠aL x) v6 z/\dc z (u5.heap.size+1) RL/\∃Ad nd cd,aP z b10 395 [aB Ad nd cd]/\bu w z Ad nd cd 65 5 ((pE ((mV js a.aH).take mm) (r.take k)).flatMap bM)/\(∀g,Ad=aL g->A9=aL g\/v6.heap.size<=g)) (λmm z z' ⟨k5,l5,Ad,nd,cd,q5,o5,nn5⟩ kk=>⟨k5.ag kk λ_ _ _=>Yt,l5.ah kk Yt,Ad,nd,cd,q5.ae kk,o5.ag kk,nn5⟩) ?_ (.inl U) (.inr (.inl U)) (λb hb=>.inr (.inr hb)) (D1.ae x6) (D2.ae x6) (hj.ae b0) hno ⟨.refl _ _,hl6,A9,k,c9,B10.ae x6,o9w.ag x6,λg hg=>.inl hg⟩).mono ?_
   .rintro mm x z hx ⟨k5,l5,Ad,nd,cd,q5,o5,nn5⟩;subst hRL;have bg:=asq hx;have hjx:=hjv _ x bg;obtain⟨cK,hxn,-⟩:=tw hjx.1;have GIm:uz d (λ_=>True) a.aH (pE ((mV js a.aH).take mm) (r.take k)):=GI.exc λy hy=>hjv _ y (asW hy);have Gd:=GIm.PF.abY hjx.1 λh q=>Yt;have hcl:=GIm.PF.an hd00;have bA:nd=(pE ((mV js a.aH).take mm) (r.take k)).length:=by have:=o5.own.an;exact Ec
    have bT:=k5.size;refine dQ (args:=[.agg x.c.toArray]) l5 U rfl hF bk<|alloc λbt z1 a1=>jR a1.aS U Yl Ys λz2 a7 k2 ck=>?_;have a7:aP z2 bt 62 x.c:=a7;have cT:=a1.au;have t11:=a1.size;have a8:ax z z2:=a1.ae.ag k2 λb hb _ e=>Y;refine tN (l5.ah a8 Yt) λz4 aa cg lz=>?_;have kzz:aj (λx=>x≠u5.heap.size+1) z z4:=(ax.any a8).trans aa;have k56:aj (λx=>x≠b10/\x≠u5.heap.size+1/\A9≠aL x) v6 z4:=k5.ag kzz λ_ _ hh=>hh.2.1;have c8:=kzz.size;have y6:=x6.size;have adlb:∀g,Ad=aL g->g≠u5.heap.size+1:=λg hg=>Uj
    have qz:=q5.ah kzz Y;have oz:=o5.bY kzz adlb (o5.ae.ag kzz λb hb _=>Y);have a7:aP z4 bt 62 x.c:=a7.ah aa Y;have n9o:∀b,b<u1.heap.size->A9≠aL b:=λb hb e=>by have:=o9lt _ e;omega
    have dd:aP z4 b8 393 [.map (some gk)]:=(((C8.ae xu5).ae x6).ah k56 ⟨Y,Y,n9o b8 Y⟩);exact Y1
   .exact g_1
 .have hr0:r=[]:=asL Y;subst hr0;have aq:R=ym js l:=by have:R++[]=ym js l:=hR;rwa [asT] at this
  have bG:R.length<=700000000:=by have:R.length<=(l.length-0)*153600:=bG;omega
  have fin:∀u2,ax u u2->∀u3,aj (λb=>b<w7.heap.size\/u2.heap[b]? ≠some (.deferred (some []))) u2 u3->bu w u3 B m cm 65 5 (R.flatMap bM):=λu2 xu u3 k3=>by have o2:=oR.ag xu;exact o2.bY k3 (λg hg=>by obtain⟨cs,hbk⟩:=o2.PB.cells hg;exact .inr hbk.undef) (o2.ae.ag k3 λb hb _=>.inl Y)
  refine an<|cD (λq3=>?_) λq3=>?_
  .have e0:iq d l js=2:=by rw[bp,asp (.inl (by rw[<-aq];omega))]
   refine GU (lo:=w7.heap.size) hmk λu3 k3=>⟨(fin u (.refl _ _) u3 k3).ae,none,0,0,by rw[e0];rfl,λh0=>by rw[e0] at h0;cases h0⟩
  .refine dt (SF oR Y) (λu2 q4 x2=>?_) λu2 q4 x2=>?_
   .have e0:iq d l js=2:=by rw[bp,asp (.inr (by rw[<-aq];simpa using q4))]
    refine GU (lo:=w7.heap.size) (hmk.ae x2) λu3 k3=>⟨(fin u2 x2 u3 k3).ae,none,0,0,by rw[e0];rfl,λh0=>by rw[e0] at h0;cases h0⟩
   .have e0:iq d l js=0:=by
     rw[bp,aso];rw[<-aq];rintro(h|h)
     .omega
     .rw[h] at q4;cases q4
    refine GU (lo:=w7.heap.size) (hmk.ae x2) λu3 k3=>⟨(fin u2 x2 u3 k3).ae,B,m,cm,by rw[e0];rfl,λ_=>by rw[<-aq];exact fin u2 x2 u3 k3⟩
end
end
theorem yz:∀{l:List eV} {last:Int},im last l=true->(∀x∈l,last<x.body)/\l.Pairwise λa b=>a.body<b.body
 |[],_,_=>⟨λ_ h=>(by cases h),.nil⟩
 |x::l,last,h=>by
  unfold im at h
  rw[asv,asy] at h
  obtain⟨h1,z⟩:=yz h.2
  refine⟨λy u=>?_,atE.2 ⟨h1,z⟩⟩
  rcases asM.1 u with rfl|u
  .exact h.1
  .have:=h1 y u;omega
section
variable {D:Nat->Prop} {w:World} {A:Option Addr} {n c:Nat}
theorem uA{x:eV}{cs:aW}(z:kF.uF D w cs x)(O:0<=x.body/\x.body<=63)(M:0<=t/\t<=63):aA 187 #[.agg cs.toArray,iv t] w (iv (x.body-t)):=by
 obtain⟨A,n,c,B,m,e,rfl,-⟩:=kH z;apply aF func187 Z;refine box λg J h1=>?_;refine go ?_;refine ld _ (h1.aS.ai U) ?_;refine go ?_;exact aQ _ U ⟨U,h1.ae⟩
theorem acv(h:bS kF D w A n ps)(hs:im (-1) ps=true)(hb:∀x∈ps,0<=x.body/\x.body<=63)(ht:0<=t/\t<=63):aK prog 186 #[aB A n c,iv t,.func (.func 187) #[] #[]] w (λv w'=>ax w w'/\∃(k:Nat) (b:Bool),v=.tuple #[iv (k:Int),.bool b]/\(b=true->∃x,ps[k]? =some x/\x.body=t)/\(b=false->∀x∈ps,x.body≠t)):=by
 have hl:=h.an;have hle:=h.le;have V:=(yz hs).2;refine aF func186 Z ?_;refine an ?_;refine aM (λs:Nat×Nat=>[(9,iv (s.1:Int)),(10,iv (s.2:Int))]) (λs u=>s.1<=s.2/\s.2<=n/\ax w u/\(∀k x,ps[k]? =some x->k<s.1->x.body<t)/\∀k x,ps[k]? =some x->s.2<=k->t<=x.body) (λs _=>s.2-s.1) (0,n) ⟨U,U,Yt⟩ ⟨atc _,asN _,.refl _ _,λk x _ hk=>absurd hk (Nat.not_lt_zero _),λk x O hk=>by have:=(asr.1 O).1;omega⟩ U ?_
 rintro G ⟨i,j⟩ u ⟨af,a7,W,h1,h2⟩;simp only at af a7 h1 h2;refine cD (λa6=>?_) λav=>?_
 .have a6:i<j:=Y;have ab: -9223372036854775808<=(i:Int)+j/\(i:Int)+j<=9223372036854775807:=Y;refine eD ab ?_;obtain⟨s,hs⟩:∃s:Nat,(i:Int)+j=(s:Int):=⟨i+j,(asA i j).symm⟩;refine qP (n:=s) hs Y ?_;refine ajT Yd ?_;refine conv (k:=.i64) ?_;obtain⟨m,aq⟩:∃m:Nat,m=(i+j)/2:=⟨_,U⟩;have e:IntKind.i64.wrap (((s:Int)).fdiv (2 ^ (min (1:Int).toNat IntKind.u64.bits)))=(m:Int):=by rw[show(2:Int) ^ (min (1:Int).toNat IntKind.u64.bits)=2 from Yd,avs _ Y,rA Y];omega
  rw[e];have a1:m<n:=Y;obtain⟨b,o,cs,x,rfl,O,-,-,hc,J⟩:=(h.ae W).au a1;have X:=hb x (asq O);have mono:∀(k k':Nat) (a a':eV),ps[k]? =some a->ps[k']? =some a'->k<k'->a.body<a'.body:=λk k' a a' ha ak hk=>by have q1:=(asr.1 ha);have q2:=(asr.1 ak);have:=ato.1 V k k' q1.1 q2.1 hk;rwa [q1.2,q2.2] at this
  have M:=J;obtain⟨A1,n1,c1,B1,m1,d1,rfl,-⟩:=kH J;refine idx m U a1 ?_;refine go ?_;refine bW (uA M X ht) λu2 x2=>?_;refine cD (λq=>?_) λq=>?_
  .refine go ?_;refine next (m+1,j) ⟨by show iv _=iv _;rw[asA];rfl,U,Yt⟩ ⟨by show m+1<=j;omega,a7,W.trans x2,λk y z hk=>?_,h2⟩ (by show j-(m+1)<j-i;omega);by_cases e2:k=m
   .subst e2;rw[O] at z;injection z with z;subst z;omega
   .have:=mono k m y x z O Y;omega
  .refine next (i,m) ⟨U,U,Yt⟩ ⟨by show i<=m;omega,by show m<=n;omega,W.trans x2,h1,λk y z hk=>?_⟩ (by show m-i<j-i;omega);by_cases e2:k=m
   .subst e2;rw[O] at z;injection z with z;subst z;omega
   .have:=mono m k x y O z Y;omega
 .have aa:i=j:=Y;subst aa;have none_:(∀x,ps[i]? =some x->x.body≠t)->∀x∈ps,x.body≠t:=λhn x O=>by
   obtain⟨k,hk⟩:=ath O;by_cases a:k<i
   .have:=h1 k x hk a;omega
   .by_cases b:k=i
    .subst b;exact hn x hk
    .have hi:i<ps.length:=by have:=(asr.1 hk).1;omega
     have q:=(asr.1 hk);have:=ato.1 V i k hi q.1 Y;rw[q.2] at this;have:=h2 i _ (asw hi) (asN _);omega
  refine cD (λa6=>?_) λao=>?_
  .have a8:i<n:=Y;obtain⟨b,o,cs,x,rfl,O,-,-,hc,J⟩:=(h.ae W).au a8;have X:=hb x (asq O);have M:=J;obtain⟨A1,n1,c1,B1,m1,d1,rfl,-⟩:=kH J;refine idx i U a8<|go<|bW (uA M X ht) λu2 x2=>?_;refine cE (λq=>?_) λq=>?_
   .exact ret ⟨W.trans x2,i,true,U,λ_=>⟨x,O,Y⟩,λhf=>(by cases hf)⟩
   .exact ret ⟨W.trans x2,i,false,U,λhf=>(by cases hf),λ_=>none_ λy z=>by rw[O] at z;injection z with z;subst z;omega⟩
  .exact ret ⟨W,i,false,U,λhf=>(by cases hf),λ_=>none_ λy z=>by have:=(asr.1 z).1;omega⟩
end
theorem aqP{P:Program}{F:Fr}{o:Oper}{c:Call}{x y z:Int}{K:Value->Prop}(J:o.op=.call c)(M:c.callee=.builtin .max)(O:c.args.toList.map (ev F)=[iv x,iv y,iv z])(h:K (iv (max (max x y) z))):AE P (execOp (ev F) o) K:=by
 rw[iP,ie F o c _ J M,mY O];have e:(max (max x y) z:Int)=if z>(if y>x then y else x) then z else(if y>x then y else x):=by split<;>split<;>omega
 rw[e] at h;exact cW (s:=Builtin.max_ c.argTypes o.type #[iv x,iv y,iv z]) (λw=>by
  unfold Builtin.max_;by_cases h1:y>x
  .by_cases u:z>y
   .simp[Builtin.max2,h1,u]
   .simp[Builtin.max2,h1,u]
  .by_cases u:z>x
   .simp[Builtin.max2,h1,u]
   .simp[Builtin.max2,h1,u]) h
def ln(ps:List eV)(x:lK):Int:=match ps.find? (λy=>decide (y.body=x.body)) with
 |none=>0
 |some y=>match y.bounds[x.period.toNat]?,y.seen[x.period.toNat]? with
  |some r,some s=>min x.oH (x.Ci*max (max (r.lo-s) (s-r.hi)) 0)
  |_,_=>0
theorem OU{ps:List eV}{t:Int}{k:Nat}{y:eV}(hs:im (-1) ps=true)(u:ps[k]? =some y)(M:y.body=t):ps.find? (λy=>decide (y.body=t))=some y:=by
 have z:=(yz hs).2;clear hs;induction ps generalizing k with
 |nil=>simp at u
 |cons a l J=>
  rw[atE] at z;cases k with
  |zero=>
   simp at u;subst u;rw[awE,asE M]
  |succ k=>
   have u:l[k]? =some y:=by simpa using u
   have:=z.1 y (asq u);rw[awE,asG Y];exact J u z.2
theorem OW(h:∀x∈ps,x.body≠t):ps.find? (λy=>decide (y.body=t))=none:=by
 rw[List.find?_eq_none];intro x u;simpa using h x u
section
variable {D D':Nat->Prop} {w:World} {A B:Option Addr} {n c m e:Nat}
theorem GX:aK prog 96 #[aB A n c,aB B m e] w (λv w'=>∃b1 b2,v=.func (.func 185) #[] #[ptr b1,ptr b2]/\ax w w'/\aP w' b1 36 [aB A n c]/\aP w' b2 35 [aB B m e]/\w.heap.size<=b1/\b1<b2):=by
 refine aF func96 Z<|box λb1 w1 h1=>box λb2 w2 h2=>?_;exact W3
set_option maxRecDepth 4000 in
theorem DW{l b1 b2:Nat}{xs:List lK}{ps:List eV}(J:Nat->World->Prop)(hJ:∀k w w',J k w->ax w w'->J k w')(hstep:∀(k:Nat) x w,xs[k]? =some x->J k w->iQ prog l [iv (k:Int),iv (ln ps x)].toArray (λv w'=>v=.bool true/\J (k+1) w'/\aj D w w') w)(hD1:D b1)(bG:D b2)(hDD:∀b,D' b->D b)(h1:aP w b1 36 [aB A n c])(h2:aP w b2 35 [aB B m e])(hx:bS GF D' w A n xs)(hp:bS kF D' w B m ps)(bt:∀x∈xs,tR x=true)(bg:∀x∈ps,kY x=true)(hs:im (-1) ps=true)(h0:J 0 w):aK prog 185 #[.func (.yield l) #[] #[],ptr b1,ptr b2] w (λ_ w'=>J n w'):=by
 have hl:=hx.an;have hle:=hx.le;apply aF func185 Z;refine go ?_;refine aM (λk:Nat=>[(13,iv (k:Int))]) (λk u=>k<=n/\aP u b1 36 [aB A n c]/\aP u b2 35 [aB B m e]/\bS GF D' u A n xs/\bS kF D' u B m ps/\J k u) (λk _=>n-k) 0 ⟨U,Yt⟩ ⟨Y,h1,h2,hx,hp,h0⟩ U ?_;rintro G k u ⟨hk,B1,B2,av,O,hj⟩;refine cD (λhlt=>?_) λhge=>?_
 .obtain⟨b,o,cs,x,rfl,hxk,-,-,hc,rfl⟩:=av.au (show k<n from Y);have cg:=Cj.1 (bt x (asq hxk));refine Uo ?_;intro b6 u1 a1 u2 B6 k2 z2 e6 xu2;refine ld _ ((B2.ae xu2).ai U) ?_;refine go ?_;refine aJ (acv (O.ae xu2) hs (λy hy=>by have:=bg y hy;unfold kY at this;rw[asv] at this;exact bO.1 this.1) Y) ?_
  rintro _ u3 ⟨x3,au,ok,rfl,ht,hf⟩;have x13:=xu2.trans x3;have B6:=B6.ae x3;have after:∀(u4 w':World),ax u u4->J (k+1) w'->aj D u4 w'->k+1<=n/\aP w' b1 36 [aB (some (ad b o)) n c]/\aP w' b2 35 [aB B m e]/\bS GF D' w' (some (ad b o)) n xs/\bS kF D' w' B m ps/\J (k+1) w':=λu4 w' x4 j' k'=>
   ⟨Y,(B1.ae x4).ah k' hD1,(B2.ae x4).ah k' bG,(av.ae x4).ah k' λb _ h=>hDD b h,(O.ae x4).ah k' λb _ h=>hDD b h,j'⟩
  cases ok with
  |false=>
   have hv:(0:Int)=ln ps x:=by unfold ln;rw[OW (hf U)]
   refine bR (oP [] [] [0,1,2,3,4,5,6,7,8,9,10,11]) [] (λz=>ax u3 z) mx Z (.refl _ _) ?_;rw[hv];refine eA (hstep k x u3 hxk (hJ _ _ _ hj x13)) ?_;rintro _ u5 ⟨rfl,j5,k5⟩;refine go ?_;exact next (k+1) ⟨Yn,Yt⟩ (after _ _ x13 j5 k5) Y
  |true=>
   obtain⟨y,hy,bq⟩:=ht U;have V:=OU hs hy bq;have hyp:=bg y (asq hy);unfold kY at hyp;simp only[asv,asy] at hyp;obtain⟨-,a7,bI,bp⟩:=hyp;unfold qw at a7;rw[asv] at a7;obtain⟨cI,oy,cr,y',rfl,aq,-,-,af,b0⟩:=(O.ae x13).au (show au<m by have:=O.an;have:=(asr.1 hy).1;omega);obtain rfl:y=y':=by rw[hy] at aq;injection aq
   have hatm:au<m:=by have:=O.an;have:=(asr.1 hy).1;omega
   obtain⟨A1,n1,c1,cK,m1,d1,rfl,bo,ay,-,-,-⟩:=kH b0;have cb:=bo.an;have c8:=ay.an;obtain⟨pn,be⟩:∃pn:Nat,x.period=pn:=⟨x.period.toNat,Y⟩;have B23:=B2.ae x13;refine bR (oP [] [] [0,1,2,3,4,5,6,7,8,9,10,11]) [] (λz=>ax u3 z) mx Z (.refl _ _) ?_;refine Uw ?_;refine Ur ?_;refine fu _ (af 1 _ U) Yt (.refl _ _) ?_;refine an ?_;refine cD (λq=>?_) λq=>?_
   .have bk:pn<n1:=Y;obtain⟨br,bT,cw,r,rfl,hr,-,-,bE,rfl⟩:=bo.au bk;obtain⟨bs,os,ct,sn,rfl,hsn,-,-,bA,rfl,-⟩:=ay.au (show pn<m1 from Y);have cp:=po.1 (asH.1 a7.2 r (asq hr));have ck:=bO.1 (asH.1 bp sn (asq hsn));have aa:ln ps x=min x.oH (x.Ci*max (max (r.lo-sn) (sn-r.hi)) 0):=by unfold ln;rw[V];simp only;rw[show x.period.toNat=pn from Y,hr,hsn]
    refine bR (oP [18,19] [] [0,1,2,3,4,5,6,7,8,9,10,11,12,13,14,15,16,17,18,19,20]) [] (λz=>ax u3 z) mx Z (.refl _ _) ?_;refine Ur ?_;refine fu _ (af 1 _ U) Yt (.refl _ _) ?_;refine Uw ?_;refine idx pn be bk ?_;refine tM _ bE U Yt (.refl _ _) ?_;refine Ur ?_;refine fu _ (af 2 _ U) Yt (.refl _ _) ?_;refine bC ?_;refine fu (iv x.period) (B6.ai U) Yt (.refl _ _) ?_;refine idx pn be (show pn<m1 from Y) ?_;refine fu (iv sn) (bA 0 _ U) Yt (.refl _ _) ?_;refine alloc λb9 u4 a9=>?_;refine bN a9.ae ?_;refine jR (vs:=r.cc) a9.aS U Yl Ys λu5 B9 k5 z5=>?_;have e9:=a9.au;have B9:aP u5 b9 57 r.cc:=B9;have a6:ax u3 u5:=a9.ae.ag k5 λb hb _ e=>Y;have B6:=B6.ae a6;refine bN a6<|bC<|ld (iv x.oH) (B6.ai U)<|bC<|ld (iv x.Ci) (B6.ai U)<|bC<|ld (iv r.lo) (B9.ai U)<|eD Y<|bC<|ld (iv r.hi) (B9.ai U)<|eD Y<|aqP U rfl rfl ?_;obtain⟨df,bx⟩:∃df,df=max (max (r.lo-sn) (sn-r.hi)) 0:=⟨_,U⟩;rw[<-bx] at aa|-;have a8:0<=x.Ci*df/\x.Ci*df<=1048576*1099511627776:=⟨atq Y Y,avC Y Y Y Y⟩;refine eD Y ?_;obtain⟨pr,bw⟩:∃pr,pr=x.Ci*df:=⟨_,U⟩;rw[<-bw] at aa a8|-;refine lit [iv pr] λg u6 h6=>?_;have sl:bS cO (λ_=>True) u6 (aL g) 1 [pr]:=bS.jw U Yd Yt (.aS h6.aS) (fX λz hz=>by rw[asP] at hz;subst hz;unfold jt;omega);refine aJ (Ow sl) ?_;rintro _ u7 ⟨rfl,rfl⟩;have ak:=x13.trans (a6.trans h6.ae);rw[show [pr].foldl min x.oH=ln ps x by rw[aa];rfl];refine eA (hstep k x _ hxk (hJ _ _ _ hj ak)) ?_;rintro _ u8 ⟨rfl,j8,k8⟩;refine eD (n:=(k:Int)+1) Y<|next (k+1) ⟨Yn,Yt⟩ (after _ _ ak j8 k8) Y
   .have hv:(0:Int)=ln ps x:=by unfold ln;rw[V];simp only;rw[show x.period.toNat=pn from Y,as1 Y]
    rw[hv];refine eA (hstep k x u3 hxk (hJ _ _ _ hj x13)) ?_;rintro _ u5 ⟨rfl,j5,k5⟩;refine eD (n:=(k:Int)+1) Y<|next (k+1) ⟨Yn,Yt⟩ (after _ _ x13 j5 k5) Y
 .obtain rfl:k=n:=Y;exact mD hj
end
section
open Classical
def mv(xs:List lK)(ps:List eV)(ws:aX):Int:=if py xs ps≠0 then py xs ps else lj 0 ws
def gB(xs:List lK)(ps:List eV):aX:=xs.map (ln ps)
theorem tA{x:lK}(h:tR x=true):0<=ln ps x/\ln ps x<=1073741824:=by
 obtain⟨-,-,z,u⟩:=Cj.1 h;unfold ln;split
 .omega
 .split
  .rename_i r s _ _;have:0<=x.Ci*max (max (r.lo-s) (s-r.hi)) 0:=atq u.1 Y;omega
  .omega
theorem I8{xs:List lK}{ps:List eV}(h:py xs ps=0):(∀x∈xs,tR x=true)/\(∀x∈ps,kY x=true)/\im (-1) ps=true:=by
 unfold py at h;by_cases h1:kZ xs=0
 .rw[aso (by simpa using h1)] at h;by_cases u:mJ ps=0
  .rw[aso (by simpa using u)] at h;refine⟨?_,?_,?_⟩
   .unfold kZ at h1;split at h1
    .cases h1
    .split at h1
     .rename_i hs;have:∀(l:List lK) (a:Int),uu a l=true->∀x∈l,tR x=true:=by
       intro l;induction l with
       |nil=>intro a _ x z;cases z
       |cons y l M=>
        intro a J x z;unfold uu at J;rw[asv,asv] at J;rcases asM.1 z with rfl|z
        .exact J.1
        .exact M _ J.2.2 x z
      exact this _ _ hs
     .cases h1
   .unfold mJ at u;split at u
    .cases u
    .split at u
     .cases u
     .split at u
      .rename_i O;exact asH.1 O
      .cases u
   .split at h
    .assumption
    .cases h
  .rw[asp u] at h;exact absurd h u
 .rw[asp h1] at h;exact absurd h h1
section
variable {w:World} {A B C:Option Addr} {n c m e p q:Nat}
set_option maxRecDepth 4000 in
theorem Li{xs:List lK}{ws:aX}(hx:bS GF (λb=>b<w.heap.size) w A n xs)(hp:bS kF (λb=>b<w.heap.size) w B m ps)(hw:bS cO (λb=>b<w.heap.size) w C p ws)(hn:n<=12)(bE:p<20):aK prog 33 #[aB A n c,aB B m e,aB C p q] w (λv w'=>ax w w'/\(mv xs ps ws≠0/\v=.tuple #[aY,aY,iv 0,iv (mv xs ps ws)]\/mv xs ps ws=0/\∃A' n' c' B' ba bp,v=.tuple #[aB A' n' c',aB B' ba bp,iv (dP (aV (gB xs ps)) ws).2,iv 0]/\bu w w' A' n' c' 3 1 (cJ (gB xs ps))/\bu w w' B' ba bp 3 1 (cJ (dP (aV (gB xs ps)) ws).1))):=by
 have hl:=hx.an;apply aF func33 Z;refine alloc λb6 w1 h1=>?_;have e6:=h1.au;have s1:=h1.size;have B6:aP w1 b6 37 [aY]:=h1.aS;refine bW (Ov (hx.ae h1.ae) (hp.ae h1.ae)) λw2 x2=>?_;have B6:=B6.ae x2;have aE:=h1.ae.trans x2;obtain⟨er,bk⟩:∃er,er=py xs ps:=⟨_,U⟩;rw[<-bk];refine cN (λg=>?_) λg=>?_
 .refine st1 B6 U λw3 B3 k3=>?_;apply ret;apply da _ (bj (B3.ai U));have e0:mv xs ps ws=er:=by unfold mv;rw[<-bk,asp g]
  exact⟨aE.ag k3 λb W _=>Y,.inl ⟨by rw[e0];exact g,by rw[e0];rfl⟩⟩
 have bo:py xs ps=0:=Y;have es:mv xs ps ws=lj 0 ws:=by unfold mv;rw[aso (by simpa using bo)]
 obtain⟨a6,bG,c1⟩:=I8 bo;refine bW (ER (total:=0) (hw.ae aE)) λw3 x3=>?_;have B6:=B6.ae x3;have b7:=aE.trans x3;obtain⟨c6,ao⟩:∃er,er=lj 0 ws:=⟨_,U⟩;rw[<-ao];refine cN (λg2=>?_) λg2=>?_
 .refine st1 B6 U λw4 B4 k4=>?_;apply ret;apply da _ (bj (B4.ai U));have e0:mv xs ps ws=c6:=by rw[es,ao]
  exact⟨b7.ag k4 λb W _=>Y,.inl ⟨by rw[e0];exact g2,by rw[e0];rfl⟩⟩
 have M:lj 0 ws=0:=Y;refine alloc λb4 w4 h4=>?_;refine st1 h4.aS U λw5 bq k5=>?_;have ct:=h4.au;have s4:=h4.size;have av:ax w3 w5:=h4.ae.ag k5 λb W _ e=>Y;have B6:=B6.ae av;have bw:=b7.trans av;apply aJ GX;rintro _ w6 ⟨b1,b2,rfl,x6,D1,D2,cg,cf⟩;have z3:=(x2.trans x3).size;have z35:=av.size;have z6:=x6.size;have ld1:=D1.lt;have cb:=D2.lt;have ck:=bq.lt;have bt:=bw.trans x6;have c7:aV (gB (xs.take 0) ps)=0:=U;refine range (gf:=185) (lb:=#[ptr b1,ptr b2]) U λfn tmps v6 RL bm hF bA x7 zz c5 bT=>?_;show aK _ _ #[.func (.yield (w6.heap.size+1)) #[] #[],ptr b1,ptr b2] v6 _;have ay:=bt.trans x7;have b5:=x6.trans x7;refine(DW (D:=λb=>b=b1\/b=b2\/b<w.heap.size) (D':=λb=>b<w.heap.size) (λk u=>aj (λx=>x≠b6/\x≠b4/\x≠w6.heap.size+1) v6 u/\dc u (w6.heap.size+1) RL/\aP u b4 3 [iv (aV (gB (xs.take k) ps))]/\k<=n/\∃A c,aP u b6 37 [aB A k c]/\bu w u A k c 3 1 (cJ (gB (xs.take k) ps))/\(∀g,A=aL g->v6.heap.size<=g)) (λk u u' ⟨k1,l1,a1,a0,A,c,a2,a3,a4⟩ kk=>⟨k1.ag kk λ_ _ _=>Yt,l1.ah kk Yt,a1.ae kk,a0,A,c,a2.ae kk,a3.ag kk,a4⟩) ?_ (.inl U) (.inr (.inl U)) (λb W=>.inr (.inr W)) (D1.ae x7) (D2.ae x7) (hx.ae ay) (hp.ae ay) a6 bG c1 ⟨.refl _ _,bT,(bq.ae b5),atc _,none,0,B6.ae b5,bu.nil ay,λg O=>by(cases O)⟩).mono ?_
 .rintro k x u b0 ⟨k1,l1,J,hk,Ad,cd,X,o5,V⟩;subst bm;have cp:=(asr.1 b0).1;have bb:xs.take (k+1)=xs.take k++[x]:=by rw[asD,b0];rfl
  have cr:=tA (ps:=ps) (a6 x (asq b0));have bh:0<=aV (gB (xs.take k) ps)/\aV (gB (xs.take k) ps)<=12884901888:=by
   constructor
   .exact kC (f:=λy=>ln ps y) λy hy=>(tA (a6 y (asW hy))).1
   .have h1:=GW (l:=gB (xs.take k) ps) (B:=1073741824) λy hy=>by obtain⟨z,hz,rfl⟩:=asS.1 hy;exact(tA (a6 z (asW hz))).2
    have h2:(gB (xs.take k) ps).length<=12:=by unfold gB;rw[asz,asF];omega
    omega
  apply dQ (args:=[iv (k:Int),iv (ln ps x)]) l1 U rfl hF bA;refine tN l1 λu2 k2 c8 l2=>?_;have X:=X.ah k2 Y;have J:=J.ah k2 Y;have z1:=k1.size;have br:ax w u2:=o5.ae.ag k2 λb W _=>Y;have o6:=o5.bY k2 (λg O=>by have:=V g O;omega) br;refine go ?_;refine lit [iv (ln ps x)] λgg u3 hq=>?_;refine iI (o6.ag hq.ae) (hq.src (sz:=1) U) Y λA9 c9 u4 o9 k9 hA=>?_;have X:=(X.ae hq.ae).ah k9 (λe=>by have:=V _ e;omega);have J:=(J.ae hq.ae).ah k9 (λe=>by have:=V _ e;omega);have l4:=(l2.ah hq.ae Yt).ah k9 (λe=>by have:=V _ e;omega);have zq:=hq.ae.size;have af:∀g,A9=aL g->v6.heap.size<=g:=λg O=>by
   rcases hA with r|r|r
   .exact V g (r▸O)
   .rw[r] at O;cases O
   .rw[r] at O;injection O with O;injection O with O;omega
  refine st1 X U λu5 X aa=>?_;have J:=J.ah aa Y;have b9:=o9.bY aa (λg O=>by have:=af g O;omega) (o9.ae.ag aa λb W _=>Y);refine go<|st1 J U λu6 J a8=>?_;have X:=X.ah a8 Y;have b8:=b9.bY a8 (λg O=>by have:=af g O;omega) (b9.ae.ag a8 λb W _=>Y);have l6:=(l4.ah aa Y).ah a8 Y;refine eQ _ l6 λu7 a7 l7=>?_;have xx:ax w u7:=b8.ae.ag a7 λb W _=>Y;have ka:aj (λb=>b<v6.heap.size/\b≠b6/\b≠b4/\b≠w6.heap.size+1) u u7:=(((((k2.cU λ_ _ hh=>hh.2.2.2).ag hq.ae λ_ _ _=>Yt).ag k9 λb W hh e=>by have:=V b e;omega).ag aa λ_ _ hh=>hh.2.1).ag a8 λ_ _ hh=>hh.2.2.1).ag a7 λ_ _ hh=>hh.2.2.2;have be:aV (gB (xs.take (k+1)) ps)=aV (gB (xs.take k) ps)+ln ps x:=by rw[bb];unfold gB;rw[asK];exact fD
  refine⟨U,⟨k1.ag ka λb W hh=>⟨W,hh⟩,l7,?_,Y,A9,c9,X.ah a7 Y,?_,af⟩,ka.cU λb W hh=>?_⟩
  .rw[be];exact J.ah a7 Y
  .have:cJ (gB (xs.take (k+1)) ps)=cJ (gB (xs.take k) ps)++[iv (ln ps x)]:=by rw[bb];unfold gB cJ;rw[asK,asK];rfl
   rw[this];exact b8.bY a7 (λg O=>by have:=af g O;omega) xx
  .rcases hh with rfl|rfl|hh
   .exact⟨Y,Y,Y,Y⟩
   .exact⟨Y,Y,Y,Y⟩
   .exact⟨Y,Y,Y,Y⟩
 .rintro v u ⟨k1,l1,J,-,Ad,cd,X,o5,V⟩;subst bm;rw[asx Y] at J o5;have bh:0<=aV (gB xs ps)/\aV (gB xs ps)<=12884901888:=by
   constructor
   .exact kC (f:=λy=>ln ps y) λy hy=>(tA (a6 y hy)).1
   .have h1:=GW (l:=gB xs ps) (B:=1073741824) λy hy=>by obtain⟨z,hz,rfl⟩:=asS.1 hy;exact(tA (a6 z hz)).2
    have h2:(gB xs ps).length<=12:=by unfold gB;rw[asz];omega
    omega
  obtain⟨T,hT⟩:∃T,T=aV (gB xs ps):=⟨_,U⟩;rw[<-hT] at J bh;have eT:lj T ws=0:=by
   unfold lj at M|-;split at M
   .cases M
   .rename_i h1;rw[aso h1];rw[aso (by rw[bO.2 Y];simp)] at M|-;exact M
  refine dL _ l1 (by simp) λu6 k6=>?_;have X:=X.ah k6 Y;have J:=J.ah k6 Y;have aq:=o5.ae.ag k6 λb W _=>Y;have o6:=o5.bY k6 (λg O=>by have:=V g O;omega) aq;have c4:=((k1.ag k6 λb W h=>h.2.2).aS _ Y ⟨Y,Y,Y⟩).trans c5;refine go<|aJ (Ox (total:=T) (hw.ae aq) bE Y) ?_;rintro _ u7 ⟨ab,bI⟩;rcases bI with⟨W,-⟩|⟨-,g,rfl,cq,b3⟩
  .exact absurd eT W
  have X:=X.ae ab;have o7:=o6.ag ab;refine go<|st1 X U λu8 X k8=>?_;have zu:=aq.size;have z1:=k1.size;have ca:=k6.size;have o8:=o7.bY k8 (λg O=>by have:=V g O;omega) (o7.ae.ag k8 λb W _=>Y);have b3:=b3.ah k8 Y;have c3:=(k8.aS _ (by have:=ab.size;omega) Y).trans ((ab.aS _ Y Yt).trans c4);refine oN c3 ?_;have k9:=aj.putObj u8 w6.heap.size (.deferred none);have x9:=o8.ae.ag k9 λb W _=>Y;refine da _ (bj ((X.ah k9 Y).ai U))<|⟨x9,.inr ⟨by rw[es];exact M,Ad,n,cd,aL g,p,p,by rw[<-hT];rfl,o8.bY k9 (λg O=>by have:=V g O;omega) x9,?_⟩⟩;rw[<-hT];have bg:(dP T ws).1.length=p:=by
   have bx:0<=aV ws:=by
    have:=kC (f:=λy:Int=>y) (l:=ws) λy hy=>by
     have:ws.all JW=true:=by
      unfold lj at M;split at M
      .cases M
      .split at M
       .cases M
       .split at M
        .assumption
        .cases M
     have:=asH.1 this y hy;unfold JW at this;have:=bO.1 this;omega
    rwa [awv] at this
   rw[(yd (total:=T) bx).2,hw.an]
  have c2:=b3.ah k9 Y;refine⟨jH.iH (rest:=[]) (by rw[asT];exact c2) (by unfold cJ;rw[asz,bg,aua]) (by rw[asT];unfold cJ;rw[asz,bg,aua]) (asN _) (by unfold maxLen;omega),x9,λg' ak=>by injection ak with ak;injection ak with ak;omega⟩
end
abbrev MV:aW:=[.func (.func 180) #[] #[],.func (.func 181) #[] #[],.func (.func 182) #[] #[]]
section
variable {D D':Nat->Prop} {w:World} {A:Option Addr} {n c:Nat}
theorem acw{x y:Od}{b g:Nat}{O tk:TypeId}(hk:CH w b O tk MV g):aA 265 #[.agg x.c.toArray,.agg y.c.toArray,ptr b] w (iv (K9 x y)):=by
 intro w0 hw;subst hw;rw[avi];obtain⟨M,z,u,n1,Y⟩:=hk.ex;have l1:=z.lt;have l2:=u.lt;have f1:w0.cell? ⟨b,0,none⟩=some (aB (some ⟨M,0,none⟩) 3 3):=z.ai U;refine(Rp x.aH x.index x.aC y.aH y.index y.aC x.bP y.bP _ _ _ (K9 x y) (λW=>kK _ _ W) (λW=>kK _ _ W) (λW=>kK _ _ W) (λa=>by unfold K9;rw[asp a]) (λa a2=>by unfold K9;rw[aso (by simp[a]),asp a2]) (λa a2 a3=>by unfold K9;rw[aso (by simp[a]),aso (by simp[a2]),asp a3]) (λa a2 a3=>by unfold K9;rw[aso (by simp[a]),aso (by simp[a2]),aso (by simp[a3])]) b M w0 f1 (λj v X=>u.ai X) l1 l2).mono ?_;rintro e J ⟨rfl,q,V,rfl⟩;exact⟨_,U,U,Re⟩
theorem acx{z:Nat}:aK prog 179 #[aB (aL z) 3 3] w (λv u=>∃b,v=.func (.func 265) #[] #[ptr b]/\ax w u/\aP u b 417 [aB (aL z) 3 3]/\w.heap.size<=b):=by
 refine aF func179 Z<|box λJ M h1=>aQ _ U ⟨J,U,h1.ae,h1.aS,by rw[h1.au];exact asN _⟩
theorem MX:aK prog 90 #[] w (λv z=>∃b u tk,v=.func (.func 265) #[] #[ptr b]/\ax w z/\aP z b 417 [aB (aL u) 3 3]/\aP z u tk MV/\w.heap.size<=b/\w.heap.size<=u):=by
 refine aF func90 Z<|lit MV λu W h1=>aJ acx ?_;rintro _ V ⟨b,rfl,J,O,M⟩;have X:=h1.au;have s1:=h1.ae.size;exact aQ _ U ⟨b,u,_,U,h1.ae.trans J,O,h1.aS.ae J,Y,Y⟩
theorem Lj{r:Reach}(V:gQ r=true)(ht:0<=t):aA 88 #[r.v,iv t] w (.tuple #[iv ((dD r t).getD 0),.bool (dD r t).isSome]):=by
 refine aF func88 Z<|box λb2 w1 h1=>?_;have B2:=h1.aS;refine cD (λu=>?_) λu=>?_
 .refine cD (λ_=>?_) λq=>absurd u q;refine ret ⟨?_,h1.ae⟩;unfold dD;rw[asp u];rfl
 have X:dD r t=if t>1073741824 then none else if rG r t>1073741824 then none else some (max (rG r t) r.dM):=by unfold dD;rw[aso u]
 refine cD (λO=>?_) λO=>?_
 .refine cD (λq=>absurd q u) λ_=>ret ⟨?_,h1.ae⟩;rw[X,asp O];rfl
 have J:dD r t=if rG r t>1073741824 then none else some (max (rG r t) r.dM):=by rw[X,aso O]
 have er:=sV.2 ⟨(eu.1 V).2.2.2.2,ht,Y⟩;have z:rP r t=if rG r t>1073741824 then(0,false) else(rG r t,true):=by unfold rP;rw[aso (by simp[er])]
 refine go<|bW GA λw2 M=>?_;by_cases W:rG r t>1073741824
 .rw[asp W] at z J;rw[z];refine ret ⟨by rw[J];rfl,h1.ae.trans M⟩
 .rw[aso W] at z J;rw[z];refine go ?_;refine ld _ ((B2.ae M).ai U) ?_;refine ret ⟨by rw[J];rfl,h1.ae.trans M⟩
theorem acy{u:aW}(hd:iG D w u d):aK prog 87 #[.agg u.toArray] w (λv z=>∃b,v=.func (.func 176) #[] #[ptr b]/\ax w z/\aP z b 31 u/\w.heap.size<=b):=by
 obtain⟨A1,n1,c1,A2,X,c2,A3,W,c3,A4,V,c4,A5,O,c5,A6,n6,Y,rfl,-⟩:=hd.ex;refine aF func87 Z<|box λJ M h1=>aQ _ U ⟨J,U,h1.ae,h1.aS,by rw[h1.au];exact asN _⟩
theorem Wl{l b:Nat}{X:aW}(J:Nat->Nat->World->Prop)(E:World->Prop)(hJ:∀m w,J (m+1) d.aG.toNat w->J m 0 w)(z:∀(m h:Nat) u,m<d.aD.length->(h:Int)<d.aG->J (m+1) h u->iQ prog l [iv (m:Int),iv (h:Int)].toArray (λv O=>(v=.bool true/\J (m+1) (h+1) O/\aj D u O)\/(v=.bool false/\E O)) u)(a7:D b)(hb:aP w b 31 X)(hd:iG D' w X d)(hH:0<=d.aG/\d.aG<=4096)(h0:J d.aD.length 0 w):aK prog 176 #[.func (.yield l) #[] #[],ptr b] w (λ_ O=>J 0 0 O\/E O):=by
 obtain⟨A1,n1,c1,A2,n2,c2,A3,n3,c3,A4,n4,c4,A5,n5,c5,A6,n6,c6,rfl,V,-⟩:=hd.ex;have a1:=V.an;have hle:=V.le;apply aF func176 Z;refine go ?_;refine aM (λm:Nat=>[(3,iv ((m:Int)-1))]) (λm u=>m<=n1/\aP u b 31 [.string d.name,iv d.aG,iv d.cap,iv d.bH,aB A1 n1 c1,aB A2 n2 c2,aB A3 n3 c3,aB A4 n4 c4,aB A5 n5 c5,aB A6 n6 c6]/\J m 0 u) (λm _=>m) n1 ⟨U,Yt⟩ ⟨asN _,hb,by rw[<-a1];exact h0⟩ U ?_;rintro G m u ⟨hm,B,hj⟩;refine cD (λab=>?_) λaa=>?_
 .obtain⟨r,rfl⟩:∃r,m=r+1:=⟨m-1,Y⟩;rw[show((r+1:Nat):Int)-1=(r:Int) from Y];refine go ?_;refine aM (λh:Nat=>[(15,iv (h:Int))]) (λh u=>(h:Int)<=d.aG/\aP u b 31 [.string d.name,iv d.aG,iv d.cap,iv d.bH,aB A1 n1 c1,aB A2 n2 c2,aB A3 n3 c3,aB A4 n4 c4,aB A5 n5 c5,aB A6 n6 c6]/\J (r+1) h u) (λh _=>d.aG.toNat-h) 0 ⟨U,Yt⟩ ⟨Y,B,hj⟩ U ?_;rintro G2 h u2 ⟨hh,B2,M⟩;refine cD (λW=>?_) λa8=>?_
  .refine eA (z r h u2 Y W M) ?_;rintro _ u3 (⟨rfl,j3,k3⟩|⟨rfl,e3⟩)
   .refine go ?_;exact next (h+1) ⟨Yn,Yt⟩ ⟨Y,B2.ah k3 a7,j3⟩ Y
   .exact mD (.inr e3)
  .have a6:h=d.aG.toNat:=Y;rw[a6] at M;refine go ?_;exact next r ⟨congrArg iv Y,Yt⟩ ⟨Y,B2,hJ r _ M⟩ Y
 .obtain rfl:m=0:=Y;exact mD (.inl hj)
end
def DX(d:aU)(x:Od):Prop:=(0<=x.aH/\x.aH<d.aG)/\(0<=x.index/\x.index<(if x.bP then(d.aR.length:Int) else(d.aD.length:Int)))/\1<=x.aC/\x.aC<=1073741824
def pG(d:aU)(l:List Od):Prop:=(∀x∈l,DX d x)/\mH qu l
noncomputable def ly (d:aU)(l:List Od):Int:=if cH d≠0 then cH d else if 4096<l.length then 2 else if pG d l then 0 else 220
noncomputable def nO (d:aU)(l:List Od):Int:=if ly d l=0/\nM d=true then 2 else ly d l
theorem pG.step{l:List Od}{x:Od}(W:l[k]? =some x)(h:pG d (l.take k))(X:DX d x)(hs:k=0\/∃y,l[k-1]? =some y/\qu y x=true):pG d (l.take (k+1)):=by
 have hk:=(asr.1 W).1;have O:l.take (k+1)=l.take k++[x]:=by rw[asD,W];rfl
 rw[O];refine⟨λy z=>?_,?_⟩
 .rcases atf.1 z with z|z
  .exact h.1 y z
  .rw[asP.1 z];exact X
 .unfold mH;rw[atH];refine⟨h.2,atY _ _,λa M b hb=>?_⟩;rw[asP.1 hb];rcases hs with rfl|⟨y,z,J⟩
  .cases M
  .have Z:1<=k:=by
    rcases atD k with q|q
    .rw[q] at M;cases M
    .exact q
   obtain⟨i,hi⟩:=ath M;have V:=(asr.1 hi).1;rw[asF] at V;have u:(l.take k)[k-1]? =some y:=by rw[aty,asp Y];exact z
   by_cases e:i=k-1
   .subst e;rw[hi] at u;injection u with u;subst u;exact J
   .have h1:=(ato.1 h.2) i (k-1) (by rw[asF];omega) (by rw[asF];omega) Y;rw[(asr.1 hi).2,(asr.1 u).2] at h1;exact Rk.tr a y x h1 J
theorem pG.last{l:List Od}{x y:Od}(h:pG d l)(u:l[k]? =some y)(z:l[k+1]? =some x):qu y x=true:=by
 have h1:=(asr.1 u).1;have J:=(asr.1 z).1;have:=(ato.1 h.2) k (k+1) h1 J Y;rw[(asr.1 u).2,(asr.1 z).2] at this;exact this
section
variable {D:Nat->Prop} {w:World} {A:Option Addr} {n c:Nat}
set_option maxRecDepth 8000 in
theorem OX{a6:aW}{d:aU}{xs:List Od}(hd:iG D w a6 d)(h:bS PC D w A n xs):aA 175 #[.agg a6.toArray,aB A n c] w (iv (ly d xs)):=by
 have hd0:=hd;have hl:=h.an;obtain⟨A1,n1,c1,A2,n2,c2,A3,n3,c3,A4,n4,c4,A5,n5,c5,A6,n6,c6,rfl,af,aq,-⟩:=hd.ex;have a8:=af.an;have aa:=aq.an;refine aF func175 Z<|box λb2 w1 h1=>?_;have B2:=h1.aS;refine fj _ (.aS B2) U<|bW (ko (hd0.ae h1.ae)) λw2 x2=>?_;have B2:=B2.ae x2;have x02:=h1.ae.trans x2;obtain⟨er,her⟩:∃er,er=cH d:=⟨_,U⟩;rw[<-her];refine cN (λq=>?_) λq=>?_
 .exact aQ (iv er) U ⟨by unfold ly;rw[<-her,asp q],x02⟩
 have V:cH d=0:=Y;refine an<|cD (λq2=>?_) λq2=>?_
 .exact aQ (iv 2) U ⟨by unfold ly;rw[aso (by simpa using V),asp Y],x02⟩
 have e0:ly d xs=if pG d xs then 0 else 220:=by unfold ly;rw[aso (by simpa using V),aso Y]
 apply aJ MX;rintro _ w3 ⟨b,gk,tk,rfl,x3,hb,ak,-,-⟩;have KR:∀v,ax w3 v->CH v b 417 tk MV (b+gk+1):=λv xv=>⟨gk,hb.ae xv,ak.ae xv,Y,Y⟩;have x03:=x02.trans x3;have B2:=B2.ae x3;apply an;refine aM (λk:Nat=>[(20,iv (k:Int))]) (λk u=>k<=n/\ax w3 u/\pG d (xs.take k)) (λk _=>n-k) 0 ⟨U,Yt⟩ ⟨Y,.refl _ _,λx hx=>by(rw[atg] at hx;cases hx),by rw[atg];exact .nil⟩ U ?_;rintro G k u ⟨hk,xu,hO⟩;refine cD (λhlt=>?_) λhge=>?_
 .obtain⟨bb,oo,cs,x,rfl,hx,-,-,hcc,rfl⟩:=(h.ae (x03.trans xu)).au (show k<n from Y);refine Py ?_;intro b7 u1 a1 u2 B7 k2 z2;have e7:=a1.au;have a7:=a1.ae.ag k2 λb hb _ e=>Y;have x32:=xu.trans a7;have xu2:=x03.trans x32;have ay:=B2.ae x32;have badX:¬DX d x->iv 220=iv (ly d xs):=λhn=>by rw[e0,aso λhh=>hn (hh.1 x (asq hx))]
  refine go ?_;cases ho:x.bP with
  |true=>
   refine go ?_;have hm1:=show(if x.bP then(d.aR.length:Int) else(d.aD.length:Int))=n2 by rw[ho,<-aa];rfl
   refine aoS ?_;refine cD (λp1=>?_) λp1=>?_
   .exact PI
   refine go ?_;refine cD (λp2=>?_) λp2=>?_
   .exact PI
   refine go ?_;refine cD (λp3=>?_) λp3=>?_
   .exact PI
   refine go ?_;refine cD (λp4=>?_) λp4=>?_
   .exact PI
   refine go ?_;refine cD (λp5=>?_) λp5=>?_
   .exact PI
   refine go ?_;refine cD (λp6=>?_) λp6=>?_
   .exact PI
   have hok:DX d x:=by unfold DX;rw[hm1];omega
   refine cD (λp7=>?_) λp7=>?_;rotate_left
   .exact aoC
   obtain⟨k1,hk1⟩:∃j,k=j+1:=⟨k-1,Y⟩;obtain⟨bp,op,av,y,hA,hy,-,-,hcp,rfl⟩:=(h.ae xu2).au (k:=k1) Y;injection hA with hA;injection hA with O J;subst O;subst J;refine go ?_;exact an8
  |false=>
   have hm1:=show(if x.bP then(d.aR.length:Int) else(d.aD.length:Int))=n1 by rw[ho,<-a8];rfl
   refine aoS ?_;refine cD (λp1=>?_) λp1=>?_
   .exact PI
   refine go ?_;refine cD (λp2=>?_) λp2=>?_
   .exact PI
   refine go ?_;refine cD (λp3=>?_) λp3=>?_
   .exact PI
   refine go ?_;refine cD (λp4=>?_) λp4=>?_
   .exact PI
   refine bC ?_;refine fu _ (B7.ai U) Yt (.refl _ _) ?_;refine cD (λp5=>?_) λp5=>?_
   .exact PI
   refine bC ?_;refine fu _ (B7.ai U) Yt (.refl _ _) ?_;refine cD (λp6=>?_) λp6=>?_
   .exact PI
   have hok:DX d x:=by unfold DX;rw[hm1];omega
   refine cD (λp7=>?_) λp7=>?_;rotate_left
   .exact aoC
   obtain⟨k1,hk1⟩:∃j,k=j+1:=⟨k-1,Y⟩;obtain⟨bp,op,av,y,hA,hy,-,-,hcp,rfl⟩:=(h.ae xu2).au (k:=k1) Y;injection hA with hA;injection hA with O J;subst O;subst J;refine eD Y ?_;exact an8
 .rw[asx Y] at hO;exact aQ (iv 0) U ⟨by rw[e0,asp hO],x03.trans xu⟩
theorem Lk{O:aW}{xs:List Od}(hd:iG D w O d)(h:bS PC D w A n xs):aA 85 #[.agg O.toArray,aB A n c] w (iv (nO d xs)):=by
 have a1:=hd;obtain⟨A1,n1,c1,A2,n2,c2,A3,n3,c3,A4,n4,c4,A5,n5,c5,A6,n6,c6,rfl,X,-⟩:=hd.ex;have W:=X.an;refine aF func85 Z<|box λb2 w1 h1=>?_;have B2:=h1.aS;refine go<|bW (OX (a1.ae h1.ae) (h.ae h1.ae)) λw2 x2=>?_;have B2:=B2.ae x2;have J:=h1.ae.trans x2;obtain⟨er,u⟩:∃er,er=ly d xs:=⟨_,U⟩;rw[<-u];refine cE (λq=>?_) λq=>?_;rotate_left
 .exact aQ (iv er) U ⟨by unfold nO;rw[<-u,aso λM=>q M.1],J⟩
 have z:cH d=0:=by
  rw[q] at u;unfold ly at u;by_cases h0:cH d=0
  .exact h0
  .rw[asp h0] at u;exact absurd u.symm h0
 obtain⟨m1,-⟩:=jO z;have M:=eC z;have hm:0<=(n1:Int)*d.aG/\(n1:Int)*d.aG<=64*4096:=⟨atq Y Y,avC Y Y Y Y⟩;refine go ?_;have hw:nM d=decide ((n1:Int)*d.aG>1024):=by unfold nM;rw[W]
 refine cD (λV=>?_) λV=>?_
 .exact aQ (iv 2) U ⟨by unfold nO;rw[asp ⟨by rw[<-u];exact q,by rw[hw];exact asE V⟩],J⟩
 .exact aQ (iv er) U ⟨by unfold nO;rw[<-u,aso λM=>by rw[hw,asy] at M;exact V M.2],J⟩
end
variable {d:aU}
theorem acz{a b:Od}(h:a.aH≠b.aH\/a.bP≠b.bP\/a.index≠b.index):qu a b=true\/qu b a=true:=by
 unfold qu;rw[asy,asy];revert h;cases a.bP<;>cases b.bP<;>simp<;>omega
def Fe(d:aU):Nat->Nat->DM×List Od->Option (DM×List Od)
 |0,_,s=>some s
 |m+1,h,s=>match lJ d m h (d.aG.toNat-h) s with
  |none=>none
  |some t=>iA d m t
theorem qD{m:Nat}{s:DM×List Od}:Fe d m 0 s=iA d m s:=by
 cases m with
 |zero=>rfl
 |succ m=>rfl
theorem Ff{m:Nat}{s:DM×List Od}:Fe d (m+1) d.aG.toNat s=iA d m s:=by
 show(match lJ d m d.aG.toNat (d.aG.toNat-d.aG.toNat) s with|none=>none|some t=>iA d m t)=_;rw[aug];rfl
theorem qF{m h:Nat}(u:(h:Int)<d.aG){s:DM×List Od}:Fe d (m+1) h s=match kX d m h s with
  |none=>none
  |some t=>Fe d (m+1) (h+1) t:=by
 show(match lJ d m h (d.aG.toNat-h) s with|none=>none|some t=>iA d m t)=(match kX d m h s with|none=>none|some t=>match lJ d m (h+1) (d.aG.toNat-(h+1)) t with|none=>none|some t=>iA d m t)
 obtain⟨k,hk⟩:∃k,d.aG.toNat-h=k+1:=⟨d.aG.toNat-h-1,Y⟩
 rw[hk]
 have e:lJ d m h (k+1) s=match kX d m h s with
  |none=>none
  |some t=>lJ d m (h+1) k t:=U
 rw[e]
 cases kX d m h s with
 |none=>rfl
 |some t=>simp only;rw[show d.aG.toNat-(h+1)=k from Y]
structure DY (d:aU) (L0 m h:Nat) (s:DM×List Od):Prop where
 EJ:fT qu s.2
 og:∀o∈s.2,o.bP=true\/o.bP=false/\((m:Int)<=o.index\/(o.index=(m:Int)-1/\o.aH+(dB d (m-1)).bD<h))
 MY:∀q,0<=s.1 q/\s.1 q<=s.2.length*1073741824
 an:s.2.length+m*d.aG.toNat<=L0+d.aD.length*d.aG.toNat+h
theorem DY.next{z m:Nat}{s:DM×List Od}(H:DY d z (m+1) d.aG.toNat s):DY d z m 0 s:=by
 refine⟨H.EJ,λo A=>?_,H.MY,?_⟩
 .rcases H.og o A with h1|⟨h1,u⟩
  .exact .inl h1
  .refine .inr ⟨h1,.inl ?_⟩;rcases u with u|⟨u,-⟩<;>omega
 .have:=H.an;rw[aun] at this;omega
theorem CT{x:Reach}(u:gQ x=true){v:Int}(z:0<=t)(h:dD x t=some v):0<=v/\v<=1073741824:=by
 have hs:=(eu.1 u).2;unfold dD at h;split at h
 .injection h with h;omega
 .split at h
  .cases h
  .split at h
   .cases h
   .injection h with h;omega
theorem DY.step{J m h:Nat}{s t:DM×List Od}(H:DY d J (m+1) h s)(hok:gQ (dB d m)=true)(hs:kX d m h s=some t):DY d J (m+1) (h+1) t:=by
 unfold kX at hs;by_cases q0:s.1 ((m:Int),(h:Int))=0
 .rw[asp q0] at hs;injection hs with hs;subst hs;refine⟨H.EJ,λo ho=>?_,H.MY,by have:=H.an;omega⟩;exact aoJ
 rw[aso q0] at hs;cases hn:dD (dB d m) (s.1 ((m:Int),(h:Int))) with
 |none=>rw[hn] at hs;cases hs
 |some v=>
  rw[hn] at hs;simp only at hs;by_cases q1:(h:Int)<(dB d m).bD
  .rw[asp q1] at hs;cases hs
  rw[aso q1] at hs;injection hs with hs;subst hs;have hb:=H.MY ((m:Int),(h:Int));have hv:=CT hok hb.1 hn;refine⟨?_,λo ho=>?_,λq=>?_,?_⟩
  .show fT qu (s.2++_);unfold fT;rw[atH];refine⟨H.EJ,atY _ _,λa ha b hb=>?_⟩;rw[asP] at hb;subst hb;apply acz;show a.aH≠(h:Int)-(dB d m).bD\/a.bP≠false\/a.index≠(m:Int);rcases H.og a ha with h1|⟨h1,h2⟩
   .exact .inr (.inl (by rw[h1];decide))
   .rcases h2 with h2|⟨h2,h3⟩
    .exact .inr (.inr Y)
    .refine .inl ?_;rw[auK] at h3;omega
  .rcases atf.1 ho with ho|ho
   .exact aoJ
   .rw[asP] at ho;subst ho;refine .inr ⟨U,.inr ⟨?_,?_⟩⟩
    .show(m:Int)=_;omega
    .show(h:Int)-(dB d m).bD+(dB d (m+1-1)).bD<_;rw[auK];omega
  .have:=H.MY q;show 0<=jM s.1 _ v q/\jM s.1 _ v q<=((s.2++_).length:Nat)*1073741824;rw[asu,auQ];unfold jM;split<;>omega
  .show(s.2++_).length+_<=_;rw[asu,auQ];have:=H.an;omega
theorem CU:∀{l:List Od} {f:DM} {B:Int},(∀x∈l,0<=x.aC/\x.aC<=1073741824)->(∀q,0<=f q/\f q<=B)->∀q,0<=kR d l f q/\kR d l f q<=B+l.length*1073741824
 |[],f,B,_,u,q=>by
  have:=u q
  show 0<=f q/\f q<=B+0*1073741824
  omega
 |x::l,f,B,z,u,q=>by
  have J:=z x ass
  have h1:∀q,0<=jM f ((jh d x.index.toNat).aZ,x.aH) x.aC q/\jM f ((jh d x.index.toNat).aZ,x.aH) x.aC q<=B+1073741824:=λq=>by
   have:=u q
   unfold jM
   split<;>omega
  have:=CU (l:=l) (f:=jM f ((jh d x.index.toNat).aZ,x.aH) x.aC) (B:=B+1073741824) (λy A=>z y (ast _ A)) h1 q
  have e:kR d (x::l) f=kR d l (jM f ((jh d x.index.toNat).aZ,x.aH) x.aC):=rfl
  rw[e,as2]
  omega
theorem Fg{l:List Od}{x:Od}:∀{f:DM},kR d (l++[x]) f=jM (kR d l f) ((jh d x.index.toNat).aZ,x.aH) x.aC:=by
 induction l with
 |nil=>intro f;rfl
 |cons a l u=>intro f;exact u
theorem DY.bH{out:List Od}(h:pG d out)(z:∀x∈out,x.bP=true):DY d out.length d.aD.length 0 (kR d out λ_=>0,out):=by
 refine⟨h.2.EJ,λo hm=>.inl (z o hm),λq=>?_,by show out.length+_<=_;omega⟩;have:=CU (d:=d) (l:=out) (f:=λ_=>0) (B:=0) (λx u=>by have:=(h.1 x u).2.2;omega) (λq=>⟨asO _,asO _⟩) q;show 0<=kR d out _ q/\kR d out _ q<=(out.length:Int)*1073741824;omega
end
abbrev gC:Ty (aX):=Xg cO
structure Run where
 dU:aX
 SG:aX
 SH:List (aX)
 dN:List (aX)
 kM:List (aX)
 taken:List (aX)
 tail:List (aX)
structure RuR (D:Nat->Prop) (w:World) (cs:aW) (x:Run):Prop where
 fI::
 ex:∃A1 n1 c1 A2 n2 c2 A3 n3 c3 A4 n4 c4 A5 n5 c5 A6 n6 c6 A7 n7 c7,cs=[.slice A1 n1 c1,.slice A2 n2 c2,.slice A3 n3 c3,.slice A4 n4 c4,.slice A5 n5 c5,.slice A6 n6 c6,.slice A7 n7 c7]/\
  bS cO D w A1 n1 x.dU/\bS cO D w A2 n2 x.SG/\bS gC D w A3 n3 x.SH/\bS gC D w A4 n4 x.dN/\bS gC D w A5 n5 x.kM/\bS gC D w A6 n6 x.taken/\bS gC D w A7 n7 x.tail/\n1<=c1/\n2<=c2
def SI(r:Reach)(v e s:Int):Bool:=if v=0 then decide (e=0)&&decide (s=0) else !(decide (e>r.dN.hi) ||decide (s>Ep (v*r.s1.n) r.s1.d) ||decide (e+s<(gM r v).lo) ||decide (e+s>(gM r v).hi))&&(decide (e+s=v) ||(decide (e>=r.dN.lo)&&decide (s>=v*r.s0.n/r.s0.d)))
theorem SJ{r:Reach}{v e s:Int}(u:v≠0):SI r v e s=true↔e<=r.dN.hi/\s<=Ep (v*r.s1.n) r.s1.d/\(gM r v).lo<=e+s/\e+s<=(gM r v).hi/\(e+s=v\/(r.dN.lo<=e/\v*r.s0.n/r.s0.d<=s)):=by
 unfold SI;rw[aso u];simp only[asv,atj,Bool.or_eq_false_iff,asZ,avu,asy];constructor
 .exact Yg
 .exact Yg
def g1(l:aX)(k:Nat):Int:=l.getD k 0
def g2(ls:List (aX))(i k:Nat):Int:=g1 (ls.getD i []) k
def r0:Reach:=⟨ByteArray.empty,0,0,0,0,0,⟨0,0⟩,⟨0,0⟩,⟨0,0⟩⟩
def f0:zk:=⟨ByteArray.empty,0,0,0⟩
def rch(d:aU)(i:Nat):Reach:=d.aD.getD i r0
def dq(d:aU)(i:Nat):zk:=d.aR.getD i f0
def ent(d:aU)(i aH:Nat):Int:=(aH:Int)-(rch d i).bD
structure Mv where
 dq:Int×Int
 to:Int×Int
 aC:Int
deriving DecidableEq
abbrev Mv.c(m:Mv):aW:=[iv m.dq.1,iv m.dq.2,iv m.to.1,iv m.to.2,iv m.aC]
theorem aqS:Qo prog 148 3:=⟨by kernel_rfl,by kernel_rfl,by kernel_rfl,by kernel_rfl,λ_ _ _ _=>by kernel_rfl⟩
instance ap6:rD prog 148 dE:=aqS.law
end Go.Proofs.YtakcjkbnfegidaaGreat
