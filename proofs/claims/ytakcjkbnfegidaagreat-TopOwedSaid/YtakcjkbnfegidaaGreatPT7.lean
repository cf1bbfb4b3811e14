/- Part. -/
import Derived.Test.YtakcjkbnfegidaaGreatPT6
set_option linter.all false
namespace Go.Proofs.YtakcjkbnfegidaaGreat
open Go Go.RowKit Tryz
variable{a b m:Nat}{aN dq f hi lo n r to:Int}{d:aU}
def JW(n:Int):Bool:=dS n 0 1073741824
def lj(total:Int)(ws:aX):Int:=if 600<ws.length then 2 else if dS total 0 1099511627776=false then 380 else if ws.all JW then 0 else 380
theorem Cj{x:lK}:tR x=true↔(0<=x.body/\x.body<=63)/\(0<=x.period/\x.period<=15)/\(0<=x.oH/\x.oH<=1073741824)/\0<=x.Ci/\x.Ci<=1048576:=by
 unfold tR;simp only[asv,bO]
section
variable {D:Nat->Prop} {w:World} {A:Option Addr} {n c:Nat}
theorem EP{xs:List lK}(h:bS GF D w A n xs):aA 64 #[aB A n c] w (iv (kZ xs)):=by
 refine aF func64 Z ?_;have hl:=h.an;have hle:=h.le;refine an ?_;refine cD (λq=>?_) λq=>?_
 .exact aQ (iv 2) U ⟨by unfold kZ;rw[asp Y],.refl _ _⟩
 have e1:kZ xs=if uu (-1) xs then 0 else 380:=by unfold kZ;rw[aso Y]
 refine an ?_;refine aM (λs:Nat×Int=>[(11,iv (s.1:Int)),(3,iv s.2)]) (λs u=>s.1<=n/\ax w u/\(-1<=s.2/\s.2<=1024)/\uu (-1) xs=uu s.2 (xs.drop s.1)) (λs _=>n-s.1) (0,-1) ⟨U,U,Yt⟩ ⟨by show 0<=n;omega,.refl _ _,⟨Yd,Yd⟩,U⟩ U ?_;rintro G ⟨k,last⟩ u ⟨hk,xu,hb,he⟩;simp only at hk hb he;refine cD (λhlt=>?_) λhge=>?_
 .obtain⟨b,o,cs,x,rfl,hx,J,-,hc,rfl⟩:=(h.ae xu).au (show k<n from Y);rw[J] at he;refine Uo ?_;intro b6 u1 a1 u2 B6 k2 z2 e6 xu2;have x2:=xu.trans xu2;have bad:(tR x=true->x.no<=last)->iv 380=iv (kZ xs):=λh=>by
   rw[e1,he];unfold uu;cases g:tR x with
   |false=>rfl
   |true=>have:=h g;rw[asG Y];rfl
  refine go ?_;refine cR yc (λp1=>?_) λp1=>?_;rotate_left
  .exact aQ _ U ⟨bad λg=>(by unfold tR at g;rw[p1] at g;cases g),x2⟩
  refine go ?_;refine cR yc (λp2=>?_) λp2=>?_;rotate_left
  .exact aQ _ U ⟨bad λg=>(by unfold tR at g;rw[p2] at g;simp at g),x2⟩
  refine go ?_;refine cR yc (λp3=>?_) λp3=>?_;rotate_left
  .exact aQ _ U ⟨bad λg=>(by unfold tR at g;rw[p3] at g;simp at g),x2⟩
  refine go ?_;refine cR yc (λp4=>?_) λp4=>?_;rotate_left
  .exact aQ _ U ⟨bad λg=>(by unfold tR at g;rw[p4] at g;simp at g),x2⟩
  have g:tR x=true:=by unfold tR;rw[p1,p2,p3,p4];rfl
  have O:=Cj.1 g;refine go ?_;refine cD (λp5=>?_) λp5=>?_
  .exact aQ _ U ⟨bad λ_=>p5,x2⟩
  refine go ?_;refine next (k+1,x.no) ⟨by show iv _=iv _;rw[asA];rfl,U,Yt⟩ ⟨by show k+1<=n;omega,x2,⟨by show -1<=x.no;unfold lK.no;omega,by show x.no<=1024;unfold lK.no;omega⟩,?_⟩ Yg;rw[he];show(tR x&&(decide (last<x.no)&&uu x.no (xs.drop (k+1))))=uu x.no (xs.drop (k+1));rw[g,asE (show last<x.no by unfold lK.no;omega)];rfl
 .exact TX
theorem Ov{xs:List lK}{ps:List eV}{B:bZ}{e:Nat}(h:bS GF D w A n xs)(hp:bS kF D w B m ps):aA 94 #[aB A n c,aB B m e] w (iv (py xs ps)):=by
 apply aF func94 Z;have hl:=hp.an;have hle:=hp.le;refine bW (EP h) λw1 x1=>?_;obtain⟨a,ha⟩:∃a,a=kZ xs:=⟨_,U⟩;rw[<-ha];refine cN (λq=>?_) λq=>?_
 .exact aQ (iv a) U ⟨by unfold py;rw[<-ha,asp q],x1⟩
 refine bW (Iw (hp.ae x1)) λw2 x2=>?_;obtain⟨a2,O⟩:∃a,a=mJ ps:=⟨_,U⟩;rw[<-O];have x2:=x1.trans x2;have e0:py xs ps=if a2≠0 then a2 else if im (-1) ps then 0 else 380:=by unfold py;rw[<-ha,aso (by simpa using q),<-O]
 refine cN (λq2=>?_) λq2=>?_
 .exact aQ (iv a2) U ⟨by rw[e0,asp q2],x2⟩
 have a6:ps.all kY=true:=by
  have e3:mJ ps=0:=Y;unfold mJ at e3;split at e3
  .cases e3
  .split at e3
   .cases e3
   .split at e3
    .assumption
    .cases e3
 have e1:py xs ps=if im (-1) ps then 0 else 380:=by rw[e0,aso Y]
 apply an;refine aM (λs:Nat×Int=>[(20,iv (s.1:Int)),(5,iv s.2)]) (λs u=>s.1<=m/\ax w u/\im (-1) ps=im s.2 (ps.drop s.1)) (λs _=>m-s.1) (0,-1) ⟨U,U,Yt⟩ ⟨by show 0<=m;omega,x2,U⟩ U ?_;rintro G ⟨k,last⟩ u ⟨hk,xu,he⟩;simp only at hk he;refine cD (λhlt=>?_) λhge=>?_
 .obtain⟨b,o,cs,x,rfl,hx,V,-,hc,J⟩:=(hp.ae xu).au (show k<m from Y);rw[V] at he;obtain⟨A1,n1,c1,B1,m1,d1,rfl,-⟩:=kH J;refine Uo ?_;intro b6 u1 a1 u2 B6 k2 z2 e6 xu2;refine go ?_;refine cD (λp=>?_) λp=>?_
  .refine aQ _ U ⟨?_,xu.trans xu2⟩;rw[e1,he];unfold im;rw[asG Y];rfl
  refine go ?_;refine next (k+1,x.body) ⟨by show iv _=iv _;rw[asA];rfl,U,Yt⟩ ⟨by show k+1<=m;omega,xu.trans xu2,?_⟩ Yg;rw[he];show(decide (last<x.body)&&im x.body (ps.drop (k+1)))=im x.body (ps.drop (k+1));rw[asE Y];rfl
 .exact TX
theorem Ow{n:Int}{l:aX}{c:Nat}(hl:bS cO D w A m l):aK prog 188 #[iv n,aB A m c] w (λv w'=>v=iv (l.foldl min n)/\w'=w):=by
 have J:=hl.an;have hle:=hl.le;apply aF func188 Z;exact aob
theorem KI{n:Int}:aA 184 #[iv n] w (.bool (!JW n)):=by
 refine aF func184 Z<|cR yc (λg=>?_) λg=>?_
 .exact aQ _ U ⟨by rw[show JW n=true from g];rfl,.refl _ _⟩
 .exact aQ _ U ⟨by rw[show JW n=false from g];rfl,.refl _ _⟩
theorem Vp{xs:aX}(h:bS cO D w A n xs):aK prog 231 #[aB A n c,.func (.func 184) #[] #[]] w (λv w'=>(∃i:Int,v=iv i/\(0<=i↔xs.all JW=false))/\ax w w'):=by
 refine aF func231 Z<|an<|aM (λk:Nat=>[(8,iv (k:Int))]) (λk w'=>k<=n/\ax w w'/\xs.all JW=(xs.drop k).all JW) (λk _=>n-k) 0 ⟨U,Yt⟩ ⟨Y,.refl _ _,U⟩ U ?_;rintro G k w' ⟨hk,xw,he⟩;refine cD (λhlt=>?_) λhge=>?_
 .obtain⟨b,o,cs,x,rfl,hx,O,-,hc,J⟩:=(h.ae xw).au (show k<n from Y);rw[O,atv] at he;obtain⟨rfl,-⟩:=J;refine go<|dt (KI (n:=x)) (λw2 g x2=>?_) λw2 g x2=>?_
  .refine aQ _ U ⟨⟨k,U,?_⟩,xw.trans x2⟩;simp only[atj] at g;rw[he,show JW x=false from g];simp
  .simp only[atb] at g;refine eD (by have:=h.le;omega)<|next (k+1) ⟨Yn,Yt⟩ ⟨Y,xw.trans x2,?_⟩ Y;rw[he,show JW x=true from g];rfl
 .exact LO
theorem Rw{xs:aX}(h:bS cO D w A n xs):aA 155 #[aB A n c,.func (.func 184) #[] #[]] w (.bool (!xs.all JW)):=by
 refine aF func155 Z<|aJ (Vp h) ?_;rintro _ z ⟨⟨i,rfl,hi⟩,u⟩;refine cD (λg=>?_) λg=>?_
 .exact aQ _ U ⟨by rw[hi.1 g];rfl,u⟩
 .refine aQ _ U ⟨?_,u⟩;cases q:xs.all JW with
  |true=>rfl
  |false=>exact absurd (hi.2 q) g
theorem ER{total:Int}{xs:aX}(h:bS cO D w A n xs):aA 95 #[iv total,aB A n c] w (iv (lj total xs)):=by
 apply aF func95 Z;have O:=h.an;refine an<|cD (λq=>?_) λq=>?_
 .exact aQ (iv 2) U ⟨by unfold lj;rw[asp Y],.refl _ _⟩
 have u:lj total xs=if dS total 0 1099511627776=false then 380 else if xs.all JW then 0 else 380:=by unfold lj;rw[aso Y]
 refine cR yc (λg=>?_) λg=>?_
 .rw[aso (by rw[g];simp)] at u;refine dt (Rw h) (λJ q z=>?_) λJ q z=>?_
  .simp only[atj] at q;exact aQ _ U ⟨by rw[u,q];rfl,z⟩
  .simp only[atb] at q;exact aQ _ U ⟨by rw[u,q];rfl,z⟩
 .exact aQ (iv 380) U ⟨by rw[u,asp g],.refl _ _⟩
end
abbrev nV(n:Nat):Value:=.int .u64 (n:Int)
section
variable {K:Value->Prop}
theorem Rx(z:a<18446744073709551616)(u:b<18446744073709551616)(k:K (nV (a&&& b))):J1 .and .u64 (a:Int) (b:Int) K:=aqg _ (u64_and_nat a b z u) k
theorem Vq{kd:IntKind}{b:Int}{c:Nat}(z:b=(c:Int))(u:c<=kd.bits):(a:Int).fdiv (2 ^ (min b.toNat kd.bits))=((a>>>c:Nat):Int):=by
 subst z;rw[ave,ava u];have:((2:Int) ^ c)=((2 ^ c:Nat):Int):=by simp
 rw[this,aut,avs _ (Int.natCast_nonneg _)];rfl
theorem Ix{b:Int}(c:Nat)(z:b=(c:Int))(u:c<=64)(k:K (nV (a>>>c))):UH .u64 (a:Int) b K:=by
 rw[zK,Vq (kd:=.u64) z u];exact⟨Y,k⟩
variable {P:Program}
theorem abJ{s t:TypeId}{u:IntKind}[qO P s u][qO P t .u64](a:Nat)(h:n=(a:Int))(k:K (nV (a%18446744073709551616))):Ef P s t (.int u n) K:=conv (by rw[pj,h,show(a:Int)%18446744073709551616=((a%18446744073709551616:Nat):Int) from Y];exact k)
theorem cvI{s t:TypeId}{u:IntKind}[qO P s u][qO P t .i64](h: -9223372036854775808<=n/\n<=9223372036854775807)(k:K (.int .i64 n)):Ef P s t (.int u n) K:=conv (by rw[IntWalk.i64_in n h];exact k)
end
def Iy(a b:Nat):Int:=if a<b then -1 else if b<a then 1 else 0
structure QV where
 index:Int
 rest:Nat
abbrev nJ(x:QV):aW:=[iv x.index,nV x.rest]
theorem IA(x:QV):(nJ x).length=2:=rfl
def ES(a b:QV):Bool:=decide (b.rest<a.rest)
section
variable {w:World}
theorem Ry:aK prog 268 #[nV a] w (λv u=>v=.bool false/\u=w):=by
 refine aF func268 Z<|cN (λq=>absurd U q) λ_=>aQ _ U ⟨U,U⟩
theorem abK:aK prog 193 #[nV a,nV b] w (λv u=>v=iv (Iy a b)/\u=w):=by
 refine aF func193 Z<|aJ Ry ?_;rintro _ J ⟨rfl,rfl⟩;apply aJ Ry;rintro _ A ⟨rfl,rfl⟩;refine cD (λq=>?_) λq=>?_
 .exact aQ (iv (-1)) U ⟨by unfold Iy;rw[asp Y],U⟩
 refine cD (λz=>?_) λz=>?_
 .exact aQ (iv 1) U ⟨by unfold Iy;rw[aso Y,asp Y],U⟩
 .exact aQ (iv 0) U ⟨by unfold Iy;rw[aso Y,aso Y],U⟩
theorem KJ{a b:QV}:aA 192 #[.agg (nJ a).toArray,.agg (nJ b).toArray] w (iv (Iy b.rest a.rest)):=by
 refine aF func192 Z<|box λg M h1=>box λg2 J u=>?_;have V:=h1.aS.ae u.ae;have O:=u.aS;refine go<|aJ abK ?_;rintro _ A ⟨rfl,rfl⟩;exact aQ _ U ⟨U,h1.ae.trans u.ae⟩
theorem amW{ms:List QV}{rest:aW}{g n c:Nat}(hb0:aP w g 337 (ms.flatMap nJ++rest))(hn:n=ms.length)(hle:n<=1000000):aK prog 339 #[aB (aL g) n c,iv 0,iv n,.func (.func 192) #[] #[]] w (λv w'=>v=.tuple #[]/\aP w' g 337 ((rV ES ms).flatMap nJ++rest)/\aj (λb=>b≠g) w w'):=by
 have hK:=IA;refine aF func339 Z ?_;refine go ?_;refine aM (λi:Nat=>[(8,iv ((i:Int)+1))]) (λi u=>(i+1<=n\/i=0)/\aj (λb=>b≠g) w u/\aP u g 337 ((rV ES (ms.take (i+1))++ms.drop (i+1)).flatMap nJ++rest)) (λi _=>n-i) 0 ⟨U,Yt⟩ ⟨.inr U,.refl _ _,by
  cases ms with
  |nil=>exact hb0
  |cons x l=>exact hb0⟩ U ?_
 rintro G i u ⟨hi,ku,hb⟩;have hl2:(rV ES (ms.take (i+1))++ms.drop (i+1)).length=n:=by rw[asu,oF,asF,atM];omega
 refine cD (λhlt=>?_) λhge=>?_
 .have hlt:i+1<n:=Y;obtain⟨x,hx⟩:∃x,ms[i+1]? =some x:=⟨ms[i+1]'Y,asw Y⟩;have hxl:=(asr.1 hx).1;obtain⟨p,hp⟩:∃p,p=rV ES (ms.take (i+1)):=⟨_,U⟩;refine apb ?_;intro hpl hdr hrl;have V:rV ES (ms.take (i+1+1))=mI ES x p (i+1):=by rw[Ip hx,<-hp,hpl]
  rw[<-hp,hdr] at hb;refine aM (λj:Nat=>[(9,iv (j:Int))]) (λj u1=>j<=i+1/\aj (λb=>b≠g) u u1/\mI ES x p (i+1)=mI ES x p j/\aP u1 g 337 (((p.take j++x::p.drop j)++ms.drop (i+2)).flatMap nJ++rest)) (λj _=>j) (i+1) ⟨Yn,Yt⟩ ⟨asN _,.refl _ _,U,by rw[asx Y,as8 Y,as5];exact hb⟩ U ?_
  rintro G2 j u1 ⟨hj,k1,O,hb1⟩;refine aoT ?_;intro hcl hxj;have fin:∀(u3:World),mI ES x p j=p.take j++x::p.drop j->ax u1 u3->aj (λb=>b≠g) w u3/\aP u3 g 337 ((rV ES (ms.take (i+1+1))++ms.drop (i+1+1)).flatMap nJ++rest):=λu3 he x3=>by refine⟨(ku.trans k1).ae x3,?_⟩;rw[V,O,he];exact hb1.ae x3
  refine cD (λa7=>?_) λa7=>?_
  .obtain⟨j',rfl⟩:∃j',j=j'+1:=⟨j-1,Y⟩;refine aoY ?_;intro y hy hyj;refine bW KJ λu2 x2=>?_;refine go ?_;have hlt2:ES x y=decide (y.rest<x.rest):=U;have hins2:mI ES x p (j'+1)=if ES x y then mI ES x p j' else p.take (j'+1)++x::p.drop (j'+1):=by rw[mI,hy]
   obtain⟨cv,J⟩:∃cv,cv=Iy y.rest x.rest:=⟨_,U⟩;rw[<-J];refine cD (λq=>?_) λq=>?_
   .have hyx:y.rest<x.rest:=by
     unfold Iy at J;split at J
     .assumption
     .split at J<;>omega
    have hb2:=hb1.ae x2;have a6:((((p.take (j'+1)++x::p.drop (j'+1))++ms.drop (i+2)).flatMap nJ)++rest).length=n*2+rest.length:=by rw[asu,bz hK,hcl]
    refine aoU ?_;refine jR hb2 U (by rw[a6];show _+2<=_;omega) Ys λu3 b3 k3 s3=>?_;have b3:aP u3 g 337 ((((p.take (j'+1)++x::p.drop (j'+1))++ms.drop (i+2)).set (j'+1) y).flatMap nJ++rest):=by rw[<-mj hK (by rw[hcl];omega)];have:0+(j'+1)*2=(j'+1)*2:=Y;rw[this] at b3;exact b3
    refine go ?_;refine idx j' Y Y ?_;refine jR b3 U (by rw[asu,bz hK,asU,hcl];show _+2<=_;omega) Ys λu4 b4 k4 s4=>?_;have b4:aP u4 g 337 (((p.take j'++x::p.drop j')++ms.drop (i+2)).flatMap nJ++rest):=by rw[<-EL (x:=x) (r:=ms.drop (i+2)) hy,<-mj hK (by rw[asU,hcl];omega)];have:0+j'*2=j'*2:=Y;rw[this] at b4;exact b4
    refine Zt ?_;rw[O,hins2,hlt2,asE hyx];rfl
   .have hyx:¬y.rest<x.rest:=λh=>by unfold Iy at J;rw[asp h] at J;omega
    exact Zd
  .exact Y7
 .exact Yk
theorem amX{ms:List QV}{rest:aW}{g n c:Nat}(hb0:aP w g 337 (ms.flatMap nJ++rest))(hn:n=ms.length)(hle:n<20):aK prog 267 #[aB (aL g) n c,iv n,.func (.func 192) #[] #[]] w (λv w'=>v=.tuple #[]/\aP w' g 337 ((rV ES ms).flatMap nJ++rest)/\aj (λb=>b≠g) w w'):=by
 refine aF func267 Z<|aM (λ_:Unit=>[(7,iv 0),(8,iv 20)]) (λ_ u=>w=u) (λ_ _=>0) () ⟨U,U,Yt⟩ U rfl ?_;rintro G _ u rfl;refine cD (λq=>Y) λ_=>aJ (amW hb0 hn Y) ?_;exact aoA
theorem amY{ms:List QV}{rest:aW}{g n c:Nat}(u:aP w g 337 (ms.flatMap nJ++rest))(A:n=ms.length)(hle:n<20):aK prog 191 #[aB (aL g) n c,.func (.func 192) #[] #[]] w (λv z=>v=.tuple #[]/\aP z g 337 ((rV ES ms).flatMap nJ++rest)/\aj (λb=>b≠g) w z):=by
 refine aF func191 Z<|an<|aJ (amX u A hle) ?_;rintro _ M ⟨rfl,J,hk⟩;exact ret ⟨U,J,hk⟩
end
section
variable {K:Value->Prop}
theorem wt(a:Nat)(h:n=(a:Int))(u:a<18446744073709551616)(k:K (nV a)):PM .u64 n K:=by
 rw[pR,pj,h,show(a:Int)%18446744073709551616=(a:Int) from Y];exact k
theorem KM(z:0<b)(A:a<18446744073709551616)(k:K (nV (a/b))):PN .u64 (a:Int) (b:Int) K:=by
 rw[vC];refine⟨Y,?_⟩;have h1:=Nat.div_le_self a b;rw[Int.tdiv_eq_ediv_of_nonneg Y,pj,show(a:Int)/(b:Int)=((a/b:Nat):Int) from(Int.natCast_ediv a b).symm];obtain⟨q,u⟩:∃q,q=a/b:=⟨_,U⟩;rw[<-u] at h1 k|-;rw[show(q:Int)%18446744073709551616=q from Y];exact k
theorem amZ(u:0<b)(k:K (nV (a%b))):PO .u64 (a:Int) (b:Int) K:=by
 apply ZJ Y Y;rw[show(a:Int)%(b:Int)=((a%b:Nat):Int) from(Int.natCast_emod a b).symm];exact k
variable {w:World}
theorem Vr{x y:Nat}(hx:x<1099511627776)(hy:y<=1073741824)(h:x*y<18446744073709551616):aK prog 189 #[nV x,nV y] w (λv w'=>v=.tuple #[nV 0,nV (x*y)]/\w'=w):=by
 apply aF func189 Z;obtain⟨V,X⟩:∃a,a=x%4294967296:=⟨_,U⟩;obtain⟨J,W⟩:∃a,a=x/4294967296:=⟨_,U⟩;have a8:x&&& 4294967295=V:=by rw[X];exact avb x 32
 have a7:x>>>32=J:=by rw[W];exact aut x 32
 have a6:y&&& 4294967295=y:=by have:=avb y 32;rw[show(2 ^ 32-1:Nat)=4294967295 from U] at this;rw[this];omega
 have a1:y>>>32=0:=by rw[aut];omega
 have dx:x=4294967296*J+V:=Y;have aa:J<256:=Y;obtain⟨u,A⟩:∃p,p=V*y:=⟨_,U⟩;obtain⟨M,z⟩:∃p,p=J*y:=⟨_,U⟩;have b0:u<=4294967295*1073741824:=by rw[A];exact atK Y hy
 have b1:M<=255*1073741824:=by rw[z];exact atK Y hy
 have ab:x*y=4294967296*M+u:=by rw[dx,aun,A,z,Nat.mul_assoc]
 have hs:u>>>32=u/4294967296:=aut u 32;obtain⟨t,ht⟩:∃t,t=M+u/4294967296:=⟨_,U⟩;have af:t<4294967296:=Y;have et:t&&& 4294967295=t:=by have:=avb t 32;rw[show(2 ^ 32-1:Nat)=4294967295 from U] at this;rw[this];omega
 have O:t>>>32=0:=by rw[aut];omega
 have m0:(V:Int)*(y:Int)=(u:Int):=by rw[A];exact(at4 _ _).symm
 have m1:(J:Int)*(y:Int)=(M:Int):=by rw[z];exact(at4 _ _).symm
 have m2:(x:Int)*(y:Int)=((x*y:Nat):Int):=(at4 _ _).symm;apply Rx Y Yd;rw[a8];apply Ix 32 U Yd;rw[a7];apply Rx Y Yd;rw[a6];apply Ix 32 U Yd;rw[a1];refine wt u m0 Y<|wt M m1 Y<|Ix 32 U Yd ?_;rw[hs];refine wt t Yg Y<|Rx Y Yd ?_;rw[et];apply Ix 32 U Yd;rw[O];refine wt 0 Yg Yd<|wt t Yg Y<|wt 0 Yg Yd<|wt 0 U Yd<|Ix 32 U Yd ?_;rw[O];refine wt 0 U Yd<|wt (x*y) m2 h<|ret ⟨U,U⟩
theorem Vs(J:a<18446744073709551616)(u:0<b):aK prog 190 #[nV 0,nV a,nV b] w (λv A=>v=.tuple #[nV (a/b),nV (a%b)]/\A=w):=by
 refine aF func190 Z<|cE (λq=>Y) λ_=>cD (λq=>Y) λ_=>cE (λ_=>?_) λq=>absurd U q;refine bR (oP [] [] [0,1,2,3,4,5,6,7]) [] (λz=>z=w) mx Z U<|KM u J<|amZ u<|ret ⟨U,U⟩
end
def tU(total sum:Int)(ws:aX):aX:=ws.map λw=>total*w/sum
def Vt(total sum:Int)(ws:aX):aX:=ws.map λw=>total*w%sum
def tV(total sum:Int):Nat->aX->List QV
 |_,[]=>[]
 |i,w::l=>⟨(i:Int),(total*w%sum).toNat⟩::tV total sum (i+1) l
def oU:aX->List QV->aX
 |s,[]=>s
 |s,q::l=>oU (s.set q.index.toNat (bL s q.index.toNat+1)) l
def qT(total:Int)(ws:aX):Int:=total-aV (tU total (aV ws) ws)
def dP(total:Int)(ws:aX):aX×Int:=if aV ws=0 then(List.replicate ws.length 0,total) else(oU (tU total (aV ws) ws) ((rV ES (tV total (aV ws) 0 ws)).take (qT total ws).toNat),0)
section
variable {total sum:Int}
theorem XF:∀{ws:aX},total*aV ws=sum*aV (tU total sum ws)+aV (Vt total sum ws)
 |[]=>by simp[tU,Vt,aV]
 |w::l=>by
  have u:=XF (ws:=l)
  have h:=Int.mul_ediv_add_emod (total*w) sum
  show total*aV (w::l)=sum*aV (total*w/sum::tU total sum l)+aV (total*w%sum::Vt total sum l)
  rw[bK,bK,bK,Int.mul_add,Int.mul_add,u]
  omega
theorem am0(hs:0<sum):∀{ws:aX},0<=aV (Vt total sum ws)/\aV (Vt total sum ws)<=sum*ws.length
 |[]=>by simp[Vt,aV]
 |w::l=>by
  have u:=am0 hs (ws:=l)
  have h1:=awy (total*w) (show sum≠0 from Y)
  have z:=awa (total*w) hs
  show 0<=aV (total*w%sum::Vt total sum l)/\aV (total*w%sum::Vt total sum l)<=sum*((l.length+1:Nat):Int)
  rw[bK,asA,Int.mul_add]
  omega
theorem Rz{ws:aX}(h:0<aV ws):0<=qT total ws/\qT total ws<=ws.length:=by
 have h1:=XF (total:=total) (sum:=aV ws) (ws:=ws);have u:=am0 (total:=total) h (ws:=ws);have z:aV ws*qT total ws=aV (Vt total (aV ws) ws):=by unfold qT;rw[Int.mul_sub,Int.mul_comm (aV ws) total,h1];omega
 rw[<-z] at u;refine⟨?_,Int.le_of_mul_le_mul_left u.2 h⟩;have:=u.1;rw[show(0:Int)=aV ws*0 by rw[Int.mul_zero]] at this;exact Int.le_of_mul_le_mul_left this h
theorem wu:∀{ws:aX} {i:Nat},(tV total sum i ws).length=ws.length
 |[],_=>rfl
 |w::l,i=>by show(tV total sum (i+1) l).length+1=l.length+1;rw[wu]
theorem Ck:∀{ws:aX} {i:Nat} {q:QV},q∈tV total sum i ws->(i:Int)<=q.index/\q.index<(i:Int)+ws.length
 |[],_,_,h=>by cases h
 |w::l,i,q,h=>by
  rcases asM.1 h with rfl|h
  .show(i:Int)<=i/\(i:Int)<(i:Int)+((l.length+1:Nat):Int);omega
  .have:=Ck h
   show(i:Int)<=q.index/\q.index<(i:Int)+((l.length+1:Nat):Int);omega
theorem RA{s:aX}{i:Nat}{v:Int}(h:i<s.length):aV (s.set i v)=aV s-bL s i+v:=by
 induction s generalizing i with
 |nil=>simp at h
 |cons a s u=>
  cases i with
  |zero=>rw[awf,bK,bK];show _=_-a+_;omega
  |succ i=>
   rw[List.set_cons_succ,bK,bK,u (by simpa using h)];show _=_-bL s i+_;omega
theorem IB:∀{l:List QV} {s:aX},(∀q∈l,0<=q.index/\q.index<s.length)->(oU s l).length=s.length/\aV (oU s l)=aV s+l.length
 |[],s,_=>⟨rfl,by show aV s=aV s+0;omega⟩
 |q::l,s,h=>by
  have A:=h q ass
  have u:=IB (l:=l) (s:=s.set q.index.toNat (bL s q.index.toNat+1)) λx z=>by rw[asU];exact h x (ast _ z)
  rw[asU,RA Y] at u
  refine⟨u.1,?_⟩
  show aV (oU (s.set q.index.toNat (bL s q.index.toNat+1)) l)=aV s+((l.length+1:Nat):Int)
  rw[u.2];omega
theorem yd{ws:aX}(h:0<=aV ws):aV (dP total ws).1+(dP total ws).2=total/\(dP total ws).1.length=ws.length:=by
 unfold dP;by_cases z:aV ws=0
 .rw[asp z];have:∀n:Nat,aV (List.replicate n 0)=0:=λn=>by
   induction n with
   |zero=>rfl
   |succ n A=>rw[au6,bK,A];rfl
  exact⟨by show aV (List.replicate ws.length 0)+total=total;rw[this];omega,atz ..⟩
 .rw[aso z];have O:=Rz (total:=total) (ws:=ws) Y;have u:(tU total (aV ws) ws).length=ws.length:=asz _;have M:((rV ES (tV total (aV ws) 0 ws)).take (qT total ws).toNat).length=(qT total ws).toNat:=by rw[asF,oF,wu];omega
  obtain⟨W,V⟩:=IB (l:=(rV ES (tV total (aV ws) 0 ws)).take (qT total ws).toNat) (s:=tU total (aV ws) ws) λq J=>by have:=Ck ((rW _).mem_iff.1 (asW J));rw[u];omega
  refine⟨?_,W.trans u⟩;show aV (oU _ _)+0=total;rw[V,M];unfold qT at O|-;omega
end
section
variable {D:Nat->Prop} {w:World} {A:Option Addr} {n c:Nat}
theorem RC{total:Int}{xs:aX}:lj total xs=0↔xs.length<=600/\(0<=total/\total<=1099511627776)/\∀x∈xs,0<=x/\x<=1073741824:=by
 unfold lj;by_cases h1:600<xs.length
 .exact Yg
 rw[aso h1];cases u:dS total 0 1099511627776 with
 |false=>rw[asp U];exact⟨λh=>(by cases h),λh=>absurd h.2.1 (FV.1 u)⟩
 |true=>
  rw[aso (by simp)];have u:=bO.1 u;cases J:xs.all JW with
  |false=>
   refine⟨λh=>(by cases h),λh=>?_⟩;have:xs.all JW=true:=asH.2 λx z=>bO.2 (h.2.2 x z);rw[J] at this;cases this
  |true=>exact⟨λ_=>⟨Y,u,λx z=>bO.1 (asH.1 J x z)⟩,λ_=>rfl⟩
theorem ET{total sum:Int}{w:Int}:∀{l:aX} {i:Nat},tV total sum i (l++[w])=tV total sum i l++[⟨((i+l.length:Nat):Int),(total*w%sum).toNat⟩]
 |[],i=>rfl
 |a::l,i=>by
  show _::tV total sum (i+1) (l++[w])=_::(tV total sum (i+1) l++_)
  rw[ET,show i+1+l.length=i+(a::l).length by rw[as2];omega]
theorem wA{total sum:Int}{w:Int}{l:aX}:tU total sum (l++[w])=tU total sum l++[total*w/sum]:=by unfold tU;rw[asK];rfl
theorem wB{x:Int}:∀{l:aX},(∀y∈l,0<=y)->x∈l->x<=aV l
 |[],_,h=>by cases h
 |a::l,z,h=>by
  rw[bK]
  have h1:=z a ass
  have J:0<=aV l:=by
   have:=kC (f:=λy:Int=>y) (l:=l) λy u=>z y (ast _ u)
   rwa [awv] at this
  rcases asM.1 h with rfl|h
  .omega
  .have:=wB (λy u=>z y (ast _ u)) h;omega
theorem am1{total sum x:Int}(z:0<=total)(J:0<=x)(hs:0<sum)(u:x<=sum):0<=total*x/sum/\total*x/sum<=total:=by
 refine⟨aue (atq z J) Y,?_⟩;have h1:=atd u z;have M:=Int.ediv_le_ediv hs h1;rwa [Int.mul_ediv_cancel _ Y] at M
theorem Ox{total:Int}{xs:aX}(h:bS cO D w A n xs)(hn:n<20)(ht:total<17179869184):aK prog 97 #[iv total,aB A n c] w (λv w'=>ax w w'/\(lj total xs≠0/\v=.tuple #[aY,iv 0,iv (lj total xs)]\/lj total xs=0/\∃g,v=.tuple #[aB (aL g) n n,iv (dP total xs).2,iv 0]/\w.heap.size<=g/\aP w' g 3 (cJ (dP total xs).1))):=by
 apply aF (args:=[iv total,aB A n c]) func97 Z;have hl:=h.an;apply aJ (ER h);rintro _ w1 ⟨rfl,x1⟩;obtain⟨e,he⟩:∃e,e=lj total xs:=⟨_,U⟩;rw[<-he];refine cN (λq=>?_) λq=>?_
 .exact ret ⟨x1,.inl ⟨q,U⟩⟩
 have cp:lj total xs=0:=Y;obtain⟨-,tb,xb⟩:=RC.1 cp;have h1:=h.ae x1;refine an<|i7 (sz:=1) (zv:=iv 0) n U rfl Y Y U Yd λg w2 h2=>?_;have e2:=h2.au;have s1:=x1.size;have Bg:aP w2 g 3 (cJ (List.replicate n 0)):=by
  have q:=h2.aS;have e:cJ (List.replicate n 0)=(List.replicate n (cz (iv 0))).flatten:=X1
  rw[e];exact q
 have x2:=x1.trans h2.ae;have bI:=h.ae x2;apply an;have tk:∀k,k<=n->0<=aV (xs.take k)/\aV (xs.take k)<=20*1073741824:=λk hk=>by
  have:=jl (l:=xs.take k) λc hc=>xb c (asW hc);have hlen:((xs.take k).length:Int)<=20:=by rw[asF];omega
  omega
 apply aM (λk:Nat=>[(31,iv (k:Int)),(7,iv (aV (xs.take k)))]) (λk u=>k<=n/\w2=u) (λk _=>n-k) 0 ⟨U,U,Yt⟩ ⟨Y,U⟩ U;rintro G k u ⟨hk,rfl⟩;refine cD (λhlt=>?_) λhge=>?_
 .obtain⟨b,o,cs,x,rfl,hx,-,-,hc,rfl,-⟩:=bI.au (show k<n from Y);have htk:xs.take (k+1)=xs.take k++[x]:=by rw[asD,hx];rfl
  have b1:=tk k hk;have b2:=xb x (asq hx);refine idx k U Y<|ld (iv x) (hc 0 _ U)<|eD Y<|eD Y<|next (k+1) ⟨Yn,by rw[htk,fD];rfl,Yt⟩ ⟨Y,U⟩ Y
 rw[asx Y];obtain⟨sm,hsm⟩:∃sm,sm=aV xs:=⟨_,U⟩;have cS:0<=sm/\sm<=20*1073741824:=by have:=tk n (asN _);rw[asx Y] at this;omega
 rw[<-hsm];refine cE (λq0=>?_) λq0=>?_
 .have es:dP total xs=(List.replicate xs.length 0,total):=by unfold dP;rw[<-hsm,asp q0]
  exact ret ⟨x2,.inr ⟨Y,g,by rw[es];rfl,Y,by rw[es,hl];exact Bg⟩⟩
 have smp:0<sm:=Y;refine an<|aM (λs:Nat×Int×bZ×Nat=>[(46,iv (s.1:Int)),(10,iv s.2.1),(11,aB s.2.2.1 s.1 s.2.2.2)]) (λs u=>s.1<=n/\s.2.1=total-aV (tU total sm (xs.take s.1))/\(-((s.1:Int)*17179869184)<=s.2.1/\s.2.1<=17179869184)/\ax w1 u/\s.2.2.1≠aL g/\aP u g 3 (cJ (tU total sm (xs.take s.1)++List.replicate (n-s.1) 0))/\bu w1 u s.2.2.1 s.1 s.2.2.2 337 2 ((tV total sm 0 (xs.take s.1)).flatMap nJ)) (λs _=>n-s.1) (0,total,none,0) ⟨U,U,U,Yt⟩ ⟨by show 0<=n;omega,by show total=total-aV [];rw[nF];omega,⟨by show _<=total;omega,by show total<=_;omega⟩,h2.ae,(by simp),Bg,bu.nil h2.ae⟩ U ?_;rintro G ⟨k,lf,QA,qc⟩ u ⟨hk,b0,ck,xu,hQ,bg,own⟩;simp only at hk b0 ck hQ bg own;refine cD (λhlt=>?_) λhge=>?_
 .obtain⟨b,o,cs,x,rfl,hx,-,-,hc,rfl,-⟩:=(h1.ae xu).au (show k<n from Y);have htk:xs.take (k+1)=xs.take k++[x]:=by rw[asD,hx];rfl
  have b2:=xb x (asq hx);refine idx k U Y<|ld (iv x) (hc 0 _ U) ?_;obtain⟨V,ay⟩:∃V:Nat,total=V:=⟨total.toNat,Y⟩;obtain⟨O,hxn⟩:∃O:Nat,x=O:=⟨x.toNat,Y⟩;obtain⟨sn,hsn⟩:∃sn:Nat,sm=sn:=⟨sm.toNat,Y⟩;have a6:V*O<18446744073709551616:=avw (atK (show V<=17179869183 from Y) (show O<=1073741824 from Y)) Yd;apply abJ V ay;rw[show V%18446744073709551616=V from Y];apply abJ O hxn;rw[show O%18446744073709551616=O from Y];apply aJ (Vr Y Y a6);rintro _ u1 ⟨rfl,rfl⟩;apply abJ sn hsn;rw[show sn%18446744073709551616=sn from Y];apply aJ (Vs a6 Y);rintro _ u2 ⟨rfl,rfl⟩;obtain⟨fl,hfl⟩:∃fl,fl=total*x/sm:=⟨_,U⟩;have cI:((V*O/sn:Nat):Int)=fl:=by rw[hfl,ay,hxn,hsn,Int.natCast_ediv,at4]
  have cw:V*O%sn=(total*x%sm).toNat:=by
   rw[ay,hxn,hsn];have:((V*O%sn:Nat):Int)=(V:Int)*(O:Int)%(sn:Int):=by rw[Int.natCast_emod,at4]
   rw[<-this,ave]
  have bG:x<=sm:=by rw[hsm];exact wB (λy hy=>(xb y hy).1) (asq hx)
  have ct:=am1 tb.1 b2.1 smp bG;rw[<-hfl] at ct;have hfk:(tU total sm (xs.take k)).length=k:=by unfold tU;rw[asz,asF];omega
  apply cvI Y;rw[cI];refine idx k U Y<|st bg (by unfold cJ;rw[asz,asu,hfk,atz];omega) U λu3 b3 k3 s3=>?_;have b3:aP u3 g 3 (cJ (tU total sm (xs.take (k+1))++List.replicate (n-(k+1)) 0)):=by
   have e:(cJ (tU total sm (xs.take k)++List.replicate (n-k) 0)).set k (iv fl)=cJ (tU total sm (xs.take (k+1))++List.replicate (n-(k+1)) 0):=by unfold cJ;rw[htk,wA,<-hfl,<-avX,avk _ _ Y,hfk,aug,show n-k=(n-(k+1))+1 from Y,au6,awf,as5];rfl
   have aa:0+k*1=k:=Y;rw[aa] at b3;rw[<-e];exact b3
  refine go ?_;refine ld (iv fl) (b3.ai (by rw[show 0+k*1=k from Y];unfold cJ;rw[as6,asR (by rw[htk,wA,asu,hfk];show k<k+1;omega),htk,wA,asY Y,hfk,aug,<-hfl];rfl)) ?_
  have cr: -9223372036854775808<=lf-fl/\lf-fl<=9223372036854775807:=Y;refine eD cr<|hY (nJ ⟨(k:Int),V*O%sn⟩) Z<|lit [.agg (nJ ⟨(k:Int),V*O%sn⟩).toArray] λg1 u4 hq=>?_;have a7:=b3.ae hq.ae;have x3:=xu.ag k3 λb hb _ e=>Y;have bk:=(own.bY k3 (λg' hg'=>show g'≠g fromλe=>hQ (by rw[hg',e])) x3).ag hq.ae;refine iI bk (hq.src (sz:=2) U) Y λF1 d1 u5 p1 k5 hF=>?_;have x5:=p1.ae;have cK:=a7.ah k5 hQ;have hgl:=a7.lt;refine eD (n:=(k:Int)+1) Y<|next (k+1,lf-fl,F1,d1) ⟨by show iv _=iv _;rw[asA];rfl,U,U,Yt⟩ ⟨by show k+1<=n;omega,?_,?_,?_,?_,?_,?_⟩ (by show n-(k+1)<n-k;omega)
  .show lf-fl=total-aV (tU total sm (xs.take (k+1)));rw[htk,wA,fD,<-hfl];omega
  .show -(((k+1:Nat):Int)*17179869184)<=lf-fl/\lf-fl<=17179869184;omega
  .exact x5
  .show F1≠aL g;rcases hF with e|e|e
   .rw[e];exact hQ
   .rw[e];simp
   .rw[e];intro e2;injection e2 with e2;injection e2 with e2;omega
  .exact cK
  .show bu w1 u5 F1 (k+1) d1 337 2 ((tV total sm 0 (xs.take (k+1))).flatMap nJ);have e:(tV total sm 0 (xs.take (k+1))).flatMap nJ=(tV total sm 0 (xs.take k)).flatMap nJ++([Value.agg (nJ ⟨(k:Int),V*O%sn⟩).toArray].flatMap cz):=by rw[htk,ET,as7,cw,as9,asF,show min k xs.length=k from Y];rfl
   rw[e];exact p1
 have hkn:k=n:=Y;subst hkn;rw[asx Y] at b0 bg own;have hL:lf=qT total xs:=by unfold qT;rw[b0,<-hsm]
 have df:=Rz (total:=total) (ws:=xs) Y;obtain⟨lv,cg⟩:∃lv:Nat,lf=lv:=⟨lf.toNat,Y⟩;obtain⟨rfl,h0,-⟩|⟨gq,rfl,db,hgl,hqc⟩:=own.form
 .exact Yc
 have hK:=IA;have bt:gq≠g:=λe=>hQ (by rw[e]);obtain⟨rest,ak,hcl,hcc⟩:=own.own.aS;refine aJ (amY ak (by rw[wu];omega) hn) ?_;rintro _ u1 ⟨rfl,ak,kq⟩;have bA:=bg.ah kq λe=>bt e.symm;rw[aug,List.replicate_zero,asT] at bA;have bE:=xu.ag kq λb hb _ e=>Y;obtain⟨J,a8⟩:∃J,J=rV ES (tV total sm 0 xs):=⟨_,U⟩;rw[<-a8] at ak;have cT:J.length=k:=by rw[a8,oF,wu];omega
 have bT:∀q∈J,0<=q.index/\q.index<k:=λq hq=>by rw[a8] at hq;have:=Ck ((rW _).mem_iff.1 hq);omega
 have aa:0<k:=by
  rcases atD k with e|e
  .exact Yc
  .exact e
 have q1:lv<=qc:=Y;have q2:0<qc:=Y;refine F5 0 lv U cg (atc _) q1 q2 ?_;refine an ?_;have hfl:(tU total sm xs).length=k:=by unfold tU;rw[asz];omega
 have bo:∀(l:List QV) (s:aX) (q:QV),oU s (l++[q])=(oU s l).set q.index.toNat (bL (oU s l) q.index.toNat+1):=λl=>by
  induction l with
  |nil=>exactλs q=>rfl
  |cons a l ih=>exactλs q=>ih _ q
 have bp:∀(l:List QV) (s:aX),(oU s l).length=s.length:=λl=>by
  induction l with
  |nil=>exactλs=>rfl
  |cons a l ih=>exactλs=>(ih _).trans (asU ..)
 refine aM (λm:Nat=>[(91,iv (m:Int))]) (λm u2=>m<=lv/\ax w1 u2/\aj (λb=>b≠g) u1 u2/\aP u2 g 3 (cJ (oU (tU total sm xs) (J.take m)))/\∀c∈oU (tU total sm xs) (J.take m),0<=c/\c<=17179869184+m) (λm _=>lv-m) 0 ⟨U,Yt⟩ ⟨Y,bE,.refl _ _,bA,λc hc=>by have hc:c∈tU total sm xs:=hc;unfold tU at hc;obtain⟨x,hx,rfl⟩:=asS.1 hc;have:=am1 tb.1 (xb x hx).1 smp (by rw[hsm];exact wB (λy hy=>(xb y hy).1) hx);omega⟩ U ?_
 rintro G2 m u2 ⟨hm,xu2,ku2,bx,hb2⟩;have dd:=bg.lt;refine cD (λhlt2=>?_) λhge2=>?_
 .have hmk:m<J.length:=Y;obtain⟨q,hq⟩:∃q,J[m]? =some q:=⟨_,asw hmk⟩;have cL:=bT q (asq hq);have bw:=ak.ah ku2 bt;refine go ?_;refine fj (nJ q) (by have:=cZ hK bw hq;rwa [show 0+m*2=0+0*2+m*2 from Y] at this) U ?_;refine alloc λb6 u3 a1=>?_;refine fg a1.aS λu4 B6 k2 z2=>?_;have e6:=a1.au;have av:=a1.ae.ag k2 λb hb _ e=>Y;have a7:=bx.ae av;obtain⟨qi,br⟩:∃qi:Nat,q.index=qi:=⟨q.index.toNat,Y⟩;have af:qi<(oU (tU total sm xs) (J.take m)).length:=by rw[bp,hfl];omega
  have be:(cJ (oU (tU total sm xs) (J.take m)))[0+qi*1]? =some (iv (bL (oU (tU total sm xs) (J.take m)) qi)):=by rw[show 0+qi*1=qi from Y];unfold cJ;rw[as6,asw af,cY (asw af)];rfl
  have cb:=hb2 _ (au0 af);rw[<-cY (asw af)] at cb;refine go ?_;refine idx qi br Y ?_;refine ld _ (a7.ai be) ?_;refine go ?_;refine idx qi br Y ?_;refine st a7 (by unfold cJ;rw[asz];omega) U λu5 b5 k5 s5=>?_;have bq:J.take (m+1)=J.take m++[q]:=by rw[asD,hq];rfl
  have aq:oU (tU total sm xs) (J.take (m+1))=(oU (tU total sm xs) (J.take m)).set qi (bL (oU (tU total sm xs) (J.take m)) qi+1):=by rw[bq,bo,show q.index.toNat=qi from Y]
  have b5:aP u5 g 3 (cJ (oU (tU total sm xs) (J.take (m+1)))):=by have aa:0+qi*1=qi:=Y;rw[aa] at b5;rw[aq];unfold cJ;rw[avX];exact b5
  refine eD (n:=(m:Int)+1) Y<|next (m+1) ⟨Yn,Yt⟩ ⟨Y,(xu2.trans av).ag k5 λb hb _ e=>Y,(ku2.ae av).trans k5,b5,λc hc=>?_⟩ Y;rw[aq] at hc;rcases auV hc with hc|rfl
  .have:=hb2 c hc;omega
  .omega
 .have c8:m=lv:=Y;subst c8;have es:dP total xs=(oU (tU total sm xs) (J.take m),0):=by unfold dP;rw[<-hsm,aso q0,<-a8,show(qT total xs).toNat=m from Y]
  exact ret ⟨x1.trans xu2,.inr ⟨Y,g,by rw[es];rfl,Y,by rw[es];exact bx⟩⟩
end
section
open Classical
structure vw where
 aO:Int
 q:Q
abbrev vw.c(x:vw):aW:=[iv x.aO,iv x.q.n,iv x.q.d]
def DR:Ty vw:=JS 3 vw.c λ_=>rfl
structure dz where
 no:Int
 kind:Int
 right:Int
 dq:Int
 to:Int
 parts:List vw
 fI:Int
 au:Int
 aN:Int
def oI:Ty dz:=ZL (pg cO (pg cO (pg cO (pg cO (pg cO (pg (Xg DR) (pg cO (pg cO cO)))))))) λx=>(x.no,x.kind,x.right,x.dq,x.to,x.parts,x.fI,x.au,x.aN)
abbrev dz.cc(x:dz)(A:bZ)(n c:Nat):aW:=[iv x.no,iv x.kind,iv x.right,iv x.dq,iv x.to,.slice A n c,iv x.fI,iv x.au,iv x.aN]
theorem tl{D:Nat->Prop}{w:World}{cs:aW}{x:dz}(h:oI.uF D w cs x):∃A n c,cs=x.cc A n c/\bS DR D w A n x.parts/\n<=c:=by
 obtain⟨c1,c2,h1,⟨X,-⟩,c3,c4,W,⟨V,-⟩,c5,c6,O,⟨M,-⟩,c7,c8,J,⟨z,-⟩,c9,d1,u,⟨g1,-⟩,d2,d3,g2,g3,d4,d5,g4,⟨g5,-⟩,d6,d7,g6,⟨g7,-⟩,g8,-⟩:=h;obtain⟨A,n,c,g9,Z,Y⟩:=g3;simp only at*;subst X;subst V;subst M;subst z;subst g1;subst g9;subst g5;subst g7;subst g8;subst g6;subst g4;subst g2;subst u;subst J;subst O;subst W;subst h1;exact⟨A,n,c,U,Z,Y⟩
def wC(n d:Int):Q×Int:=if 1073741824<max (n.natAbs/Nat.gcd n.natAbs d.natAbs) (d.natAbs/Nat.gcd n.natAbs d.natAbs) then(⟨0,0⟩,2) else(⟨n/(Nat.gcd n.natAbs d.natAbs:Nat),d/(Nat.gcd n.natAbs d.natAbs:Nat)⟩,0)
def nW(a b:Q):Q×Int:=if dR a&&dR b then wC (a.n*b.d+b.n*a.d) (a.d*b.d) else(⟨0,0⟩,120)
theorem Vu{a b:Q}(h:(nW a b).2=0):0<a.d/\0<b.d/\0<(nW a b).1.d/\(nW a b).1.n*(a.d*b.d)=(a.n*b.d+b.n*a.d)*(nW a b).1.d:=by
 unfold nW at h|-;cases u:dR a&&dR b with
 |false=>rw[u] at h;cases h
 |true=>
  rw[u,asp U] at h;rw[asp U];rw[asv] at u;have h1:=(cV.1 u.1).1;have X:=(cV.1 u.2).1;unfold wC at h|-;obtain⟨n,M⟩:∃n,n=a.n*b.d+b.n*a.d:=⟨_,U⟩;obtain⟨d,hd⟩:∃d,d=a.d*b.d:=⟨_,U⟩;have O:0<d:=by rw[hd];exact auv Y Y
  rw[<-M,<-hd] at h|-;obtain⟨g,A⟩:∃g,g=Nat.gcd n.natAbs d.natAbs:=⟨_,U⟩;rw[<-A] at h|-;by_cases q:1073741824<max (n.natAbs/g) (d.natAbs/g)
  .rw[asp q] at h;cases h
  rw[aso q];have V:(g:Int) ∣ n:=by rw[A];exact Int.ofNat_dvd_left.2 (Nat.gcd_dvd_left _ _)
  have W:(g:Int) ∣ d:=by rw[A];exact Int.ofNat_dvd_left.2 (Nat.gcd_dvd_right _ _)
  obtain⟨x,J⟩:=V;obtain⟨y,z⟩:=W;have Z:(0:Int)<g:=by
   rcases atD g with e|e
   .rw[e] at z;simp at z;omega
   .omega
  have ex:n/(g:Int)=x:=by rw[J];exact au3 _ Y
  have ey:d/(g:Int)=y:=by rw[z];exact au3 _ Y
  refine⟨Y,Y,?_,?_⟩
  .exact Yg
  .exact Yg
theorem floor_le{N D:Int}(u:0<D)(h:f=N*n/D):D*f<=N*n/\N*n<D*f+D:=by
 have h1:=Int.mul_ediv_add_emod (N*n) D;have A:=awy (N*n) (show D≠0 from Y);have z:=awa (N*n) u;rw[h];omega
def jz(l:List vw)(n:Int):aX:=l.map λp=>p.q.n*n/p.q.d
theorem abL{F sn A J z un u N D:Int}(hs:0<A)(hu:0<u)(M:0<D)(X:0<z)(h1:D*f<=N*n)(e:un*(A*D)=(sn*D+N*A)*u)(W:F*(u*z)<=(J*u-un*z)*n):(f+F)*(A*z)<=(J*A-sn*z)*n:=by
 have Y:=ati h1 (avA (auv (auv hs hu) X));have a2:=ati W (avA (auv hs M));refine avr (a:=u*D) ?_ (auv hu M);have V:(J*A-sn*z)*n*(u*D)=N*n*(A*u*z)+(J*u-un*z)*n*(A*D):=by grind
 have O:(f+F)*(A*z)*(u*D)=D*f*(A*u*z)+F*(u*z)*(A*D):=by grind
 rw[V,O];exact Int.add_le_add Y a2
theorem abM{F k sn A J z un u N D:Int}(hs:0<A)(hu:0<u)(M:0<D)(X:0<z)(h1:N*n<D*f+D)(e:un*(A*D)=(sn*D+N*A)*u)(W:(J*u-un*z)*n<=(F+k)*(u*z)):(J*A-sn*z)*n<(f+F+(k+1))*(A*z):=by
 have Y:=awc h1 (auv (auv hs hu) X);have a2:=ati W (avA (auv hs M));refine Int.lt_of_mul_lt_mul_right (a:=u*D) ?_ (avA (auv hu M));have V:(J*A-sn*z)*n*(u*D)=N*n*(A*u*z)+(J*u-un*z)*n*(A*D):=by grind
 have O:(f+F+(k+1))*(A*z)*(u*D)=(D*f+D)*(A*u*z)+(F+k)*(u*z)*(A*D):=by grind
 rw[V,O];exact Int.add_lt_add_of_lt_of_le Y a2
def jq(m:Nat):List vw->aX->Q->Option Q
 |[],_,s=>some s
 |p::l,seen,s=>if dS p.aO 0 ((m:Int)-1)&&(!decide (p.aO∈seen)&&decide (0<p.q.n)) then(if(nW s p.q).2=0 then jq m l (p.aO::seen) (nW s p.q).1 else none) else none
def lL(m:Nat)(l:List vw):Bool:=match jq m l [] ⟨0,1⟩ with
 |some s=>dS l.length 1 16&&(decide (s.n=1)&&decide (s.d=1))
 |none=>false
theorem yY{p:vw}{l:List vw}{seen:aX}{s t:Q}(h:jq m (p::l) seen s=some t):(0<=p.aO/\p.aO<m)/\p.aO∉seen/\0<p.q.n/\dR p.q=true/\(nW s p.q).2=0/\jq m l (p.aO::seen) (nW s p.q).1=some t:=by
 unfold jq at h;split at h
 .rename_i h1;simp only[asv,atj,asZ,asy] at h1;split at h
  .rename_i u;refine⟨?_,h1.2.1,h1.2.2,?_,u,h⟩
   .have:=bO.1 h1.1;omega
   .unfold nW at u;split at u
    .rename_i z;rw[asv] at z;exact z.2
    .cases u
  .cases h
 .cases h
theorem Cn{m:Nat}{n:Int}:∀{l:List vw} {seen:aX} {s t:Q},jq m l seen s=some t->0<s.d->0<t.d/\aV (jz l n)*(s.d*t.d)<=(t.n*s.d-s.n*t.d)*n/\(t.n*s.d-s.n*t.d)*n<=(aV (jz l n)+l.length)*(s.d*t.d)/\(l≠[]->(t.n*s.d-s.n*t.d)*n<(aV (jz l n)+l.length)*(s.d*t.d))
 |[],_,s,t,h,hs=>by
  have h:some s=some t:=h
  injection h with h
  subst h
  have e:s.n*s.d-s.n*s.d=0:=Y
  have V:aV (jz [] n)=0:=rfl
  rw[e,V,awt,awt]
  refine⟨hs,asO _,?_,λq=>absurd rfl q⟩
  rw[awC];simp
 |p::l,seen,s,t,h,hs=>by
  obtain⟨-,-,-,-,O,M⟩:=yY h
  obtain⟨-,z,hu,e⟩:=Vu O
  obtain⟨u,J,i2,-⟩:=Cn (n:=n) M hu
  obtain⟨f1,f2⟩:=floor_le (N:=p.q.n) (n:=n) z rfl
  have W:aV (jz (p::l) n)=p.q.n*n/p.q.d+aV (jz l n):=bK
  have A:=abM hs hu z u f2 e i2
  rw[W,as2,asA]
  exact⟨u,abL hs hu z u f1 e J,avA A,λ_=>A⟩
theorem Co{l:List vw}(h:lL m l=true):∃t,jq m l [] ⟨0,1⟩=some t/\t.n=1/\t.d=1/\1<=l.length/\l.length<=16:=by
 unfold lL at h;split at h
 .rename_i s hs;simp only[asv,asy] at h;have:=bO.1 h.1;exact⟨s,hs,h.2.1,h.2.2,Y,Y⟩
 .cases h
theorem Cp{l:List vw}(h:lL m l=true)(n:Int):aV (jz l n)<=n/\n<aV (jz l n)+l.length:=by
 obtain⟨t,h1,z,u,A,-⟩:=Co h;obtain⟨-,a,-,b⟩:=Cn (n:=n) h1 Yd;have b:=b λe=>Yg;rw[z,u] at a b;simp only[Int.mul_one,Int.one_mul,Int.sub_zero] at a b;exact⟨a,b⟩
theorem Cq{m:Nat}:∀{l:List vw} {seen:aX} {s t:Q},jq m l seen s=some t->∀p∈l,(0<=p.aO/\p.aO<m)/\dR p.q=true/\0<p.q.n
 |[],_,_,_,_,_,u=>by cases u
 |a::l,_,_,_,h,p,u=>by
  obtain⟨h1,-,J,A,-,z⟩:=yY h
  rcases asM.1 u with rfl|u
  .exact⟨h1,A,J⟩
  .exact Cq z p u
theorem EU{l:List vw}(h:lL m l=true):∀p∈l,(0<=p.aO/\p.aO<m)/\dR p.q=true/\0<p.q.n:=by
 obtain⟨t,h1,-⟩:=Co h;exact Cq h1
abbrev BK:=Int×Int->Option Int
def ml(b:BK)(k:Int×Int):Int:=(b k).getD 0
def nK(b:BK)(k:Int×Int)(n:Int):BK:=λq=>if q=k then some (ml b k+n) else b q
def mn(b:BK)(k:Int×Int):BK:=λq=>if q=k then none else b q
def uU(l:List gW):BK:=λq=>match l[q.1.toNat]? with
 |some x=>if 0<=q.1/\x.kind=1/\x.aO=q.2 then some x.aC else none
 |none=>none
def uV(right n:Int)(b:BK)(l:List vw):BK:=l.foldl (λb p=>nK b (right,p.aO) (p.q.n*n/p.q.d)) b
def ye(right:Int)(b:BK)(l:List vw):BK:=l.foldl (λb p=>nK b (right,p.aO) 1) b
def Oy(b:BK)(x:dz)(n:Int):BK:=ye x.right (uV x.right n b x.parts) (x.parts.take (n-aV (jz x.parts n)).toNat)
def yf(b:BK)(x:dz):BK:=if ml b (x.right,x.dq)=0 then b else if x.kind=1 then nK (mn b (x.right,x.dq)) (x.right,x.to) (ml b (x.right,x.dq)) else if x.kind=2 then Oy (mn b (x.right,x.dq)) x (ml b (x.right,x.dq)) else mn b (x.right,x.dq)
def rX(b:BK)(l:List dz):BK:=l.foldl yf b
def jA(F:Nat)(b:BK)(r:Int):Int:=aV ((List.range F).map λ(f:Nat)=>ml b (r,(f:Int)))
theorem Af{b:BK}{k q:Int×Int}:ml (nK b k n) q=if q=k then ml b k+n else ml b q:=by
 unfold nK;show(if q=k then some (ml b k+n) else b q).getD 0=_;split<;>rfl
theorem Aj{b:BK}{k q:Int×Int}:ml (mn b k) q=if q=k then 0 else ml b q:=by
 unfold mn;show(if q=k then none else b q).getD 0=_;split<;>rfl
theorem Cr{F:Nat}{b u:BK}(A:0<=f/\f<F)(h:∀f':Int,f'≠f->ml u (r,f')=ml b (r,f'))(he:ml u (r,f)=ml b (r,f)+n):jA F u r=jA F b r+n:=by
 obtain⟨i,hi⟩:∃i:Nat,f=i:=⟨f.toNat,Y⟩;subst hi;exact wg List.nodup_range (as0.2 Y) (λx _ z=>h _ λe=>z Y) he
theorem yg{α:Type}:∀l:List α,aV (l.map λ_=>(0:Int))=0
 |[]=>rfl
 |_::l=>by rw[asQ,bK,yg l];rfl
theorem MA{f':Int}(h:f'≠f):((r,f'):Int×Int)≠(r,f):=λe=>h (by injection e)
theorem Cs{F:Nat}{b z:BK}{u:Int}(h:∀q:Int×Int,q.1=u->ml z q=ml b q)(_hr:u≠r):jA F z u=jA F b u:=fG λ_ _=>h _ rfl
structure kI (d:aU) (b:BK):Prop where
 key:∀q v,b q=some v->(0<=q.1/\∃y,d.bn[q.1.toNat]? =some y/\y.kind=1)/\(0<=q.2/\q.2<d.aR.length)
 pos:∀q,0<=ml b q
 rf:∀r,jA d.aR.length b r<=1073741824
variable {d:aU}
theorem kI.le{b:BK}(h:kI d b)(q:Int×Int):ml b q<=1073741824:=by
 by_cases z:0<=q.2/\q.2<d.aR.length
 .have h1:=h.rf q.1;obtain⟨i,hi⟩:∃i:Nat,q.2=i:=⟨q.2.toNat,Y⟩;have:ml b (q.1,(i:Int))<=jA d.aR.length b q.1:=by
   have:=wB (x:=ml b (q.1,(i:Int))) (l:=(List.range d.aR.length).map λ(f:Nat)=>ml b (q.1,(f:Int))) (λy u=>by obtain⟨f,-,rfl⟩:=asS.1 u;exact h.pos _) (asS.2 ⟨i,as0.2 Y,U⟩)
   exact this
  rw[show q=(q.1,(i:Int)) from Prod.ext U hi];omega
 .cases e:b q with
  |none=>unfold ml;rw[e];decide
  |some v=>exact absurd (h.key q v e).2 z
theorem kI.add{b:BK}(h:kI d b)(V:0<=r/\∃y,d.bn[r.toNat]? =some y/\y.kind=1)(M:0<=f/\f<d.aR.length)(W:0<=n)(O:jA d.aR.length b r+n<=1073741824):kI d (nK b (r,f) n)/\jA d.aR.length (nK b (r,f) n) r=jA d.aR.length b r+n:=by
 have e:jA d.aR.length (nK b (r,f) n) r=jA d.aR.length b r+n:=Cr M (λf' z=>by rw[Af,aso (MA z)]) (by rw[Af,asp U]);refine⟨⟨λq v A=>?_,λq=>?_,λJ=>?_⟩,e⟩
 .by_cases z:q=(r,f)
  .rw[z];exact⟨V,M⟩
  .unfold nK at A;simp only[aso z] at A;exact h.key q v A
 .rw[Af];split
  .have:=h.pos (r,f);omega
  .exact h.pos q
 .by_cases u:J=r
  .subst u;rw[e];exact O
  .rw[Cs (b:=b) (r:=r) (λq z=>by rw[Af,aso λe=>u (by rw[<-z,e])]) u];exact h.rf J
theorem kI.del{b:BK}(h:kI d b)(M:0<=f/\f<d.aR.length):kI d (mn b (r,f))/\jA d.aR.length (mn b (r,f)) r=jA d.aR.length b r-ml b (r,f):=by
 have e:jA d.aR.length (mn b (r,f)) r=jA d.aR.length b r+(-ml b (r,f)):=Cr M (λf' A=>by rw[Aj,aso (MA A)]) (by rw[Aj,asp U];omega);have O:=h.pos (r,f);refine⟨⟨λq v z=>?_,λq=>?_,λJ=>?_⟩,Y⟩
 .by_cases A:q=(r,f)
  .unfold mn at z;simp only[asp A] at z;cases z
  .unfold mn at z;simp only[aso A] at z;exact h.key q v z
 .rw[Aj];split
  .exact asO _
  .exact h.pos q
 .by_cases u:J=r
  .subst u;have:=h.rf J;omega
  .rw[Cs (b:=b) (r:=r) (λq A=>by rw[Aj,aso λe=>u (by rw[<-A,e])]) u];exact h.rf J
structure tm where
 right:Int
 aO:Int
 aC:Int
 cC:Int
abbrev tm.c(x:tm):aW:=[iv x.right,iv x.aO,iv x.aC,iv x.cC]
def uv(d:aU)(r:Nat):Int:=match d.bn[r]? with
 |some y=>y.cC
 |none=>0
def zr(d:aU)(b:BK):List tm:=(List.range d.bn.length).flatMap λ(r:Nat)=>(List.range d.aR.length).filterMap λ(f:Nat)=>if 0<ml b ((r:Int),(f:Int)) then some ⟨r,f,ml b ((r:Int),(f:Int)),uv d r⟩ else none
def MB(a b:tm):Bool:=decide (a.right<b.right\/a.right=b.right/\a.aO<b.aO)
theorem MC:JV MB:=⟨λa=>by unfold MB;rw[asZ];omega,λa b c h1 u=>by unfold MB at*;rw[asy] at*;omega⟩
theorem IC{b:BK}{h:tm}:h∈zr d b↔∃r f:Nat,r<d.bn.length/\f<d.aR.length/\0<ml b ((r:Int),(f:Int))/\h=⟨r,f,ml b ((r:Int),(f:Int)),uv d r⟩:=by
 unfold zr;exact YA
theorem wD{b:BK}:mH MB (zr d b):=by
 unfold mH zr;rw[List.pairwise_flatMap];refine⟨λr _=>?_,?_⟩
 .rw[List.pairwise_filterMap];refine(avE (n:=d.aR.length)).imp λ{f f'} A x z y u=>?_;split at z
  .injection z with z;split at u
   .injection u with u;subst z;subst u;unfold MB;rw[asy];exact .inr ⟨U,by show(f:Int)<f';omega⟩
   .cases u
  .cases z
 .refine(avE (n:=d.bn.length)).imp λ{r J} A x z y u=>?_;simp only[aus] at z u;obtain⟨f,-,z⟩:=z;obtain⟨f',-,u⟩:=u;split at z
  .injection z with z;split at u
   .injection u with u;subst z;subst u;unfold MB;rw[asy];exact .inl (by show(r:Int)<J;omega)
   .cases u
  .cases z
variable {d:aU}
def uw(x:dz):Bool:=decide ((x.kind=1\/x.kind=2\/x.kind=3\/x.right=0/\x.dq=0)/\(x.kind=1\/x.to=0)/\(x.kind=2\/x.parts.length=0)/\(x.kind=4\/x.fI=0))
def pz(d:aU)(x:dz):Bool:=dS x.right 0 ((d.bn.length:Int)-1)&&((match d.bn[x.right.toNat]? with|some y=>decide (y.kind=1)|none=>false)&&dS x.dq 0 ((d.aR.length:Int)-1))
abbrev UD:=Int->Option (Int×Int)
def mq(d:aU)(e:UD)(x:dz):Bool:=if x.kind=1 then pz d x&&(dS x.to 0 ((d.aR.length:Int)-1)&&decide (x.to≠x.dq)) else if x.kind=2 then pz d x&&lL d.aR.length x.parts else if x.kind=3 then pz d x else if x.kind=4 then(match e x.fI with|some y=>decide (y.1≠4)&&decide (y.2<=x.aN)|none=>false) else false
def pA(d:aU)(e:UD)(x:dz):Bool:=dS x.no 0 1048576&&(dS x.au 0 4096&&(dS x.aN 0 1048576&&(uw x&&mq d e x)))
def ID(e:UD)(x:dz):UD:=λn=>if n=x.no then some (x.kind,x.aN) else e n
def lM(d:aU):UD->Int->List dz->Bool
 |_,_,[]=>true
 |e,last,x::l=>decide (last<x.no)&&(pA d e x&&lM d (ID e x) x.no l)
def pB(x:dz):Bool:=decide (x.parts.length<=16)
def fS(d:aU)(l:List dz):Int:=if cH d≠0 then cH d else if 512<l.length\/l.all pB=false then 2 else if lM d (λ_=>none) (-1) l then 0 else 250
theorem rY{l:List dz}:fS d l=0↔cH d=0/\(l.length<=512/\l.all pB=true)/\lM d (λ_=>none) (-1) l=true:=by
 unfold fS;exact Ug
def uW(d:aU)(x:dz):Prop:=(0<=x.right/\∃y,d.bn[x.right.toNat]? =some y/\y.kind=1)/\(0<=x.dq/\x.dq<d.aR.length)/\(x.kind=1/\(0<=x.to/\x.to<d.aR.length)\/x.kind=2/\lL d.aR.length x.parts=true\/x.kind=3)
theorem nj{x:dz}(h:pz d x=true):(0<=x.right/\∃y,d.bn[x.right.toNat]? =some y/\y.kind=1)/\(0<=x.dq/\x.dq<d.aR.length):=by
 unfold pz at h;rw[asv,asv] at h;have h1:=bO.1 h.1;have z:=bO.1 h.2.2;refine⟨⟨h1.1,?_⟩,Y⟩;have u:=h.2.1;split at u
 .exact Yg
 .cases u
theorem RD{e:UD}{x:dz}(h:mq d e x=true)(A:x.kind≠4):uW d x:=by
 unfold mq at h;by_cases z:x.kind=1
 .rw[asp z,asv,asv] at h;have:=bO.1 h.2.1;exact⟨(nj h.1).1,(nj h.1).2,.inl ⟨z,Y⟩⟩
 rw[aso z] at h;by_cases u:x.kind=2
 .rw[asp u,asv] at h;exact⟨(nj h.1).1,(nj h.1).2,.inr (.inl ⟨u,h.2⟩)⟩
 rw[aso u] at h;by_cases k3:x.kind=3
 .rw[asp k3] at h;exact⟨(nj h).1,(nj h).2,.inr (.inr k3)⟩
 rw[aso k3,aso A] at h;cases h
theorem uX:∀{l:List dz} {e:UD} {last:Int},lM d e last l=true->∀x∈l,x.kind≠4->uW d x
 |[],_,_,_,_,u=>by cases u
 |a::l,e,last,h,x,u=>by
  unfold lM at h
  rw[asv,asv] at h
  rcases asM.1 u with rfl|u
  .have h1:=h.2.1
   unfold pA at h1
   simp only[asv] at h1
   exact RD h1.2.2.2.2
  .exact uX h.2.2 x u
def wE(l:List dz)(aN n:Int):Bool:=l.any λx=>decide (x.kind=4/\x.aN<=aN/\x.fI=n)
def GG(l:List dz)(aH aN:Int)(x:dz):Bool:=decide (x.kind≠4/\x.aN<=aN/\x.au<=aH)&&!wE l aN x.no
def am2(a b:dz):Bool:=decide (a.au<b.au)
def Cu(l:List dz)(aH aN:Int):List dz:=rV am2 (l.filter (GG l aH aN))
theorem IE{l:List dz}{aH:Int}{x:dz}(h:x∈Cu l aH aN):x∈l/\x.kind≠4:=by
 have h1:=(rW _).mem_iff.1 h;obtain⟨z,u⟩:=at6.1 h1;unfold GG at u;rw[asv,asy] at u;exact⟨z,u.1.1⟩
theorem EV{b:BK}{l:List vw}{p:vw}:uV r n b (l++[p])=nK (uV r n b l) (r,p.aO) (p.q.n*n/p.q.d):=by unfold uV;rw[aud];rfl
theorem EW{b:BK}{l:List vw}{p:vw}:ye r b (l++[p])=nK (ye r b l) (r,p.aO) 1:=by unfold ye;rw[aud];rfl
theorem tp{l:List vw}{p:vw}:jz (l++[p]) n=jz l n++[p.q.n*n/p.q.d]:=by unfold jz;rw[asK];rfl
theorem MD{l:List vw}(J:0<=n)(A:∀p∈l,dR p.q=true/\0<p.q.n):∀x∈jz l n,0<=x:=λx z=>by
 obtain⟨p,u,rfl⟩:=asS.1 z;obtain⟨h1,M⟩:=A p u;exact aue (atq Y J) (by have:=(cV.1 h1).1;omega)
theorem pC(a b:aX):aV (a++b)=aV a+aV b:=by unfold aV;rw[atS]
theorem Cv{l:List vw}(h:∀x∈jz l n,0<=x)(k:Nat):aV (jz (l.take k) n)<=aV (jz l n):=by
 have e:jz l n=jz (l.take k) n++jz (l.drop k) n:=by unfold jz;rw[<-asK,atk]
 have z:0<=aV (jz (l.drop k) n):=by have:=kC (f:=λy:Int=>y) (l:=jz (l.drop k) n) λy u=>h y (by rw[e];exact atV _ u);rwa [awv] at this
 rw[e,pC];omega
theorem kI.uV{b:BK}(h:kI d b){r n:Int}{l:List vw}(V:0<=r/\∃y,d.bn[r.toNat]? =some y/\y.kind=1)(W:0<=n)(M:∀p∈l,(0<=p.aO/\p.aO<d.aR.length)/\dR p.q=true/\0<p.q.n)(X:jA d.aR.length b r+aV (jz l n)<=1073741824):∀k,k<=l.length->kI d (uV r n b (l.take k))/\jA d.aR.length (Go.Proofs.YtakcjkbnfegidaaGreat.uV r n b (l.take k)) r=jA d.aR.length b r+aV (jz (l.take k) n)
 |0,_=>⟨h,by show jA d.aR.length b r=jA d.aR.length b r+0;omega⟩
 |k+1,hk=>by
  obtain⟨h1,h2⟩:=kI.uV h V W M X k Y
  obtain⟨p,A⟩:=gx l k
  have z:l.take (k+1)=l.take k++[p]:=by rw[asD,A];rfl
  have u:=MD W λp J=>(M p J).2
  have hle:=Cv u (k+1)
  have hm:=M p (asq A)
  have O:=u _ (asS.2 ⟨p,asq A,rfl⟩)
  rw[z,tp,fD] at hle
  obtain⟨h3,Z⟩:=h1.add V hm.1 O Y
  rw[z,EV,tp,fD]
  exact⟨h3,by rw[Z];omega⟩
theorem kI.ye{b:BK}(h:kI d b){r:Int}{l:List vw}(A:0<=r/\∃y,d.bn[r.toNat]? =some y/\y.kind=1)(J:∀p∈l,0<=p.aO/\p.aO<d.aR.length)(M:jA d.aR.length b r+l.length<=1073741824):∀k,k<=l.length->kI d (ye r b (l.take k))/\jA d.aR.length (Go.Proofs.YtakcjkbnfegidaaGreat.ye r b (l.take k)) r=jA d.aR.length b r+k
 |0,_=>⟨h,by show jA d.aR.length b r=jA d.aR.length b r+0;omega⟩
 |k+1,hk=>by
  obtain⟨h1,W⟩:=kI.ye h A J M k Y
  obtain⟨p,z⟩:=gx l k
  have u:l.take (k+1)=l.take k++[p]:=by rw[asD,z];rfl
  obtain⟨V,O⟩:=h1.add A (J p (asq z)) (show(0:Int)<=1 from Yd) Y
  rw[u,EW]
  exact⟨V,by rw[O];omega⟩
theorem kI.DF{b:BK}(h:kI d b){x:dz}(O:uW d x):kI d (yf b x):=by
 obtain⟨z,V,hk⟩:=O;unfold yf;obtain⟨n,A⟩:∃n,n=ml b (x.right,x.dq):=⟨_,U⟩;rw[<-A];split
 .exact h
 obtain⟨h1,X⟩:=h.del (r:=x.right) V;rw[<-A] at X;have u:=h.pos (x.right,x.dq);have ht:=h.rf x.right;rw[<-A] at u;split
 .rename_i M;rcases hk with hk|hk|hk
  .exact(h1.add z hk.2 u Y).1
  .omega
  .omega
 split
 .rename_i M Z;rcases hk with hk|hk|hk
  .omega
  .have hm:=EU hk.2;obtain⟨l1,l2⟩:=Cp hk.2 n;unfold Oy;obtain⟨J,W⟩:=h1.uV z u hm Y x.parts.length (asN _);rw[auh] at J W;have hlen:(x.parts.take (n-aV (jz x.parts n)).toNat).length=(n-aV (jz x.parts n)).toNat:=by rw[asF];omega
   have:=(J.ye (l:=x.parts.take (n-aV (jz x.parts n)).toNat) z (λp u=>(hm p (asW u)).1) (by rw[hlen];omega) _ (asN _)).1;rwa [auh] at this
  .omega
 .exact h1
theorem kI.rX:∀{l:List dz} {b:BK},kI d b->(∀x∈l,uW d x)->kI d (rX b l)
 |[],_,h,_=>h
 |x::l,b,h,u=>by
  show kI d (Go.Proofs.YtakcjkbnfegidaaGreat.rX (yf b x) l)
  exact kI.rX (h.DF (u x ass)) λy z=>u y (ast _ z)
theorem qx(h:cH d=0){y:gW}(hy:y∈d.bn):(0<=y.aO/\y.aO<d.aR.length)/\(0<=y.aZ/\y.aZ<d.aD.length)/\(0<=y.dq/\y.dq<=y.to/\y.to<d.aG)/\kindOk d.aG y=true:=by
 have h1:gH d=true:=by unfold cH at h;exact W9
 have h2:=(dA.1 h1).2.2.2.2.1;have h3:=asH.1 h2 y hy;unfold jF at h3;simp only[asv,asy] at h3;obtain⟨a1,a2,a3,a4,a5⟩:=h3;have a1:=bO.1 a1;have a2:=bO.1 a2;have a3:=bO.1 a3;exact⟨Y,Y,Y,a5⟩
theorem RE(M:cH d=0):kI d (uU d.bn):=by
 have J:∀q:Int×Int,ml (uU d.bn) q=match d.bn[q.1.toNat]? with
  |some x=>if 0<=q.1/\x.kind=1/\x.aO=q.2 then x.aC else 0
  |none=>0:=λq=>by
  unfold ml uU;generalize d.bn[q.1.toNat]? =o;cases o with
  |none=>rfl
  |some x=>
   simp only;split<;>rfl
 have lit:∀{r:Int} {y:gW},d.bn[r.toNat]? =some y->y.kind=1->1<=y.aC/\y.aC<=1073741824:=λu hk=>by have h1:=(qx M (asq u)).2.2.2;unfold kindOk at h1;rw[asp hk] at h1;simp only[asv] at h1;exact bO.1 h1.2.2.1
 refine⟨λq v A=>?_,λq=>?_,λr=>?_⟩
 .unfold uU at A;split at A
  .rename_i y u;split at A
   .rename_i z;have:=(qx M (asq u)).1;exact⟨⟨z.1,y,u,z.2.1⟩,Y⟩
   .cases A
  .cases A
 .rw[J];split
  .rename_i y u;split
   .rename_i z;have:=lit u z.2.1;omega
   .exact asO _
  .exact asO _
 .have zero:(∀f:Int,ml (uU d.bn) (r,f)=0)->jA d.aR.length (uU d.bn) r<=1073741824:=λh=>by have e:jA d.aR.length (uU d.bn) r=aV ((List.range d.aR.length).map λ_=>(0:Int)):=fG λf _=>h f;rw[e,yg];decide
  cases u:d.bn[r.toNat]? with
  |none=>exact zero λf=>by rw[J];simp only[u]
  |some y=>
   by_cases z:0<=r/\y.kind=1
   .have h1:=(qx M (asq u)).1;have e:jA d.aR.length (uU d.bn) r=jA d.aR.length (λ_=>none) r+y.aC:=Cr h1 (λf' O=>by rw[J];simp only[u];rw[aso λe=>O e.2.2.symm];rfl) (by rw[J];simp only[u];rw[asp ⟨z.1,z.2,Yt⟩];show _=0+_;omega);have V:jA d.aR.length (λ_=>none) r=0:=yg _;have:=lit u z.2;omega
   .exact zero λf=>Yg
def mr(d:aU)(l:List dz)(aH aN:Int):Int:=if fS d l≠0 then fS d l else if dS aH 0 (d.aG-1)&&dS aN 0 1048576 then 0 else 1
def Hk(d:aU)(l:List dz)(aH aN:Int):List tm:=zr d (rX (uU d.bn) (Cu l aH aN))
def Cm.ar(a:Cm)(n:Int):Cm:={a with aC:=a.aC+n}
theorem IF{D:Nat->Prop}{w:World}:∀{xs:List Cm} {cs:aW},dW uQ D w xs cs->cs=xs.flatMap bM
 |[],cs,h=>h
 |x::xs,cs,h=>by
  obtain⟨a,b,rfl,z,u⟩:=h
  rw[ata,<-IF u]
  rw[show a=bM x from z]
theorem am3{D:Nat->Prop}{w:World}{A:bZ}{n:Nat}{xs:List Cm}(h:bS uQ D w A n xs):Src w A n 5 (xs.flatMap bM):=by
 have z:=h.an;refine⟨by rw[Rc,z],λu=>?_⟩;obtain⟨b,o,cs,x,rfl,_⟩:=h.au u;obtain⟨O,J,M⟩:=h.cells;refine⟨b,o,U,?_⟩;rw[<-IF J];exact M
abbrev T3:=Int×Int×Int
def Cm.k3(c:Cm):T3:=(c.aH,c.cC,c.right)
def t4(k:T3)(f:Int):Ti:=(k.1,k.2.1,k.2.2,f)
noncomputable abbrev sG (fr to hr aC got:Int)(l:List Cm)(i:Nat):Int:=(XC fr to hr aC got l i).1
section
variable {fr to hr aC got:Int} {l:List Cm}
structure am4 (fr to hr aC got:Int) (l:List Cm):Prop where
 ok:Rj l
 ne:fr≠to
 l1:1<=aC
 l2:aC<=1073741824
 g0:0<=got
 g1:got<=1073741824
end
structure ar6 (fr to hr aC got:Int) (l x:List Cm):Prop extends am4 fr to hr aC got l where
 arg:aqE fr to hr aC got=true
 has:aC<=aqC fr hr l
 an:x.length<=4096
 nd:(x.map Cm.ti).Nodup
 srt:x.Pairwise λa b=>tf a.ti b.ti
 mem:∀c,c∈x↔amT fr to hr aC got l c.ti=some c.aC/\0<c.aC
 le:∀t n,amT fr to hr aC got l t=some n->n<=1073741824
section
variable {fr to hr aC got:Int} {l x:List Cm}
variable (h:ar6 fr to hr aC got l x)
include h
omit h in
omit h in
def clB(d:aU)(c:Cm):Prop:=(0<=c.right/\c.right<d.bn.length)/\(0<=c.aO/\c.aO<d.aR.length)/\(0<=c.aH/\c.aH<d.aG)/\(1<=c.aC/\c.aC<=1073741824)/\∃y,d.bn[c.right.toNat]? =some y/\y.kind=1/\y.cC=c.cC
def fV(d:aU)(l:List Cm):Prop:=(∀c∈l,clB d c)/\l.Pairwise λa b=>tf a.ti b.ti
end
def yh:aX->Int
 |[]=>0
 |a::l=>if a≠0 then a else yh l
section
variable {D:Nat->Prop} {w:World}
theorem uY(x y:Int):aK prog 93 #[iv x,iv y] w (λv u=>v=iv (cx x y)/\u=w):=by
 intro w0 hw;subst hw;rw[avi];apply(eI x y w0).mono;rintro e u ⟨rfl,rfl⟩;exact⟨_,U,U,U⟩
theorem RF{A:bZ}{n c:Nat}{l:aX}(z:bS cO D w A n l):aK prog 232 #[aB A n c] w (λv M=>v=iv (yh l)/\M=w):=by
 have W:=z.an;have le:=z.le;refine aF func232 Z ?_;refine an ?_;refine aM (λk:Nat=>[(7,iv (k:Int))]) (λk u=>k<=n/\w=u/\yh l=yh (l.drop k)) (λk _=>n-k) 0 ⟨U,Yt⟩ ⟨Y,U,U⟩ U ?_;rintro G k u ⟨hk,rfl,J⟩;refine cD (λO=>?_) λV=>?_
 .obtain⟨b,o,cs,a,rfl,ha,hd,-,X,rfl,-⟩:=z.au (k:=k) Y;refine go ?_;refine cN (λg=>?_) λg=>?_
  .exact aQ (iv a) U ⟨by rw[J,hd];unfold yh;rw[asp g],U⟩
  .refine go ?_;refine next (k+1) ⟨Yn,Yt⟩ ⟨Y,U,by rw[J,hd];exact aso Y⟩ Y
 .exact aQ _ U ⟨by rw[J,ph Y];rfl,U⟩
theorem GH(a b:Int): -1<=cx a b/\cx a b<=1:=by
 unfold cx;split
 .omega
 .split<;>omega
theorem RG(x y:Cm):aA 160 #[.agg (bM x).toArray,.agg (bM y).toArray] w (iv (NN x.ti y.ti)):=by
 refine aF func160 Z ?_;refine box λb2 w1 h1=>?_;refine box λb3 W h2=>?_;have B2:aP W b2 65 (bM x):=h1.aS.ae h2.ae;have B3:aP W b3 65 (bM y):=h2.aS;have a6:=h1.ae.trans h2.ae;refine bR (oP [20,21] [] [0,1,2,3,4,5,6,7,8,9,10,11,12,13,14,15,16,17,18,19,20,21,22]) [] (λz=>ax W z) mx Z (.refl _ _) ?_;refine go ?_;refine um (v:=iv (cx x.aH y.aH)) (λu _=>uY x.aH y.aH) ?_;refine go ?_;refine um (v:=iv (cx x.cC y.cC)) (λu _=>uY x.cC y.cC) ?_;refine go ?_;refine um (v:=iv (cx x.right y.right)) (λu _=>uY x.right y.right) ?_;refine go ?_;refine um (v:=iv (cx x.aO y.aO)) (λu _=>uY x.aO y.aO) ?_;have q1:=GH x.aH y.aH;have q2:=GH x.cC y.cC;have q3:=GH x.right y.right;have q4:=GH x.aO y.aO;have A:yh [cx x.aH y.aH,cx x.cC y.cC,cx x.right y.right,cx x.aO y.aO]=NN x.ti y.ti:=by
  unfold NN;show(if _ then _ else if _ then _ else if _ then _ else if cx x.aO y.aO≠0 then cx x.aO y.aO else 0)=_;by_cases p:cx x.aO y.aO≠0
  .rw[asp p];rfl
  .rw[aso p,show(0:Int)=cx x.aO y.aO from Y];rfl
 obtain⟨a1,V⟩:∃a,a=cx x.aH y.aH:=⟨_,U⟩;obtain⟨a2,O⟩:∃a,a=cx x.cC y.cC:=⟨_,U⟩;obtain⟨a3,M⟩:∃a,a=cx x.right y.right:=⟨_,U⟩;obtain⟨a4,J⟩:∃a,a=cx x.aO y.aO:=⟨_,U⟩;rw[<-V] at q1;rw[<-O] at q2;rw[<-M] at q3;rw[<-J] at q4;rw[<-V,<-O,<-M,<-J] at A|-;refine lit [iv a1,iv a2,iv a3,iv a4] λg w3 X=>?_;have own:bu W w3 (aL g) 4 4 3 1 ([a1,a2,a3,a4].map λk=>iv k):=bu.lit (.refl _ _) X U;have sl:=own.ints (λc hc=>by simp only[asM,ats,aur] at hc;unfold jt;omega) Y λ_ _=>Yt
 refine bN X.ae<|aJ (RF sl) ?_;rintro _ w4 ⟨rfl,rfl⟩;refine bN X.ae<|aQ (iv _) U ⟨by rw[A],a6.trans X.ae⟩
end
noncomputable def ez (d:aU)(l:List Cm):Int:=if cH d≠0 then cH d else if 4096<l.length then 2 else if fV d l then 0 else 260
theorem iB{l:List Cm}:ez d l=0↔cH d=0/\l.length<=4096/\fV d l:=by
 unfold ez;exact Ug
theorem fV.snoc{s:List Cm}{c:Cm}:fV d (s++[c])↔fV d s/\clB d c/\∀b,s.getLast?=some b->tf b.ti c.ti:=by
 unfold fV;rw[atH];constructor
 .rintro⟨h1,A,-,M⟩;exact⟨⟨λx u=>h1 x (atO _ u),A⟩,h1 c (by simp),λb J=>M b (List.mem_of_getLast? J) c (by simp)⟩
 .rintro⟨⟨h1,A⟩,M,V⟩;refine⟨λx u=>?_,A,atY _ _,λa z b J=>?_⟩
  .rw[atf,asP] at u;rcases u with u|rfl
   .exact h1 x u
   .exact M
  .rw[asP] at J;subst J;rcases List.eq_nil_or_concat s with rfl|⟨t,y,rfl⟩
   .cases z
   rw[List.concat_eq_append] at z A V;have O:=V y (by simp);rw[atf,asP] at z;rcases z with z|rfl
   .exact Oe ((atH.1 A).2.2 a z y (by simp)) O
   .exact O
theorem fV.take{l:List Cm}(h:fV d l)(k:Nat):fV d (l.take k):=⟨λc u=>h.1 c (asW u),h.2.sublist (auT k l)⟩
section
variable {D:Nat->Prop} {w:World}
set_option maxRecDepth 8000 in
set_option maxHeartbeats 2000000 in
theorem tu{af:aW}{A:bZ}{n c:Nat}{l:List Cm}(hd:iG D w af d)(hl:bS uQ D w A n l):aA 69 #[.agg af.toArray,aB A n c] w (iv (ez d l)):=by
 have hd0:=hd;have hlen:=hl.an;obtain⟨A1,n1,c1,A2,n2,c2,A3,n3,c3,A4,n4,c4,A5,n5,c5,A6,n6,c6,rfl,-,hf,-,a8,-⟩:=hd.ex;have lf:=hf.an;have lr:=a8.an;refine aF func69 Z<|box λb2 w1 h1=>?_;have B2:=h1.aS;refine go ?_;refine bW (ko (hd0.ae h1.ae)) λw2 x2=>?_;have B2:=B2.ae x2;have x02:=h1.ae.trans x2;refine cN (λhe=>?_) λhe=>?_
 .exact aQ (iv _) U ⟨by unfold ez;rw[asp he],x02⟩
 refine an ?_;refine cD (λg1=>?_) λg1=>?_
 .exact aQ (iv 2) U ⟨by unfold ez;rw[aso λh=>h he,asp Y],x02⟩
 have g1:n<=4096:=Y;have hl2:=hl.ae x02;have a7:=a8.ae x02;have hE:ez d l=if fV d l then 0 else 260:=by unfold ez;rw[aso λh=>h he,aso Y]
 have bad:¬fV d l->iv 260=iv (ez d l):=λh=>by rw[hE,aso h]
 refine an ?_;refine aM (λk:Nat=>[(18,iv (k:Int))]) (λk u=>k<=n/\ax w2 u/\fV d (l.take k)) (λk _=>n-k) 0 ⟨U,Yt⟩ ⟨Y,.refl _ _,⟨λc hc=>(by cases hc),.nil⟩⟩ U ?_;rintro G k u ⟨hk,xu,hok⟩;refine cD (λhlt=>?_) λhge=>?_
 .obtain⟨b,o,cs,m,rfl,hm,-,-,hc,rfl⟩:=(hl2.ae xu).au (k:=k) Y;have htk:l.take (k+1)=l.take k++[m]:=by rw[asD,hm];rfl
  refine Uo ?_;intro b6 u1 a1 u2 B6 k2 z2 e6 xu2;have x2:=(x02.trans xu).trans xu2;have B2:=(B2.ae xu).ae xu2;have hsn:fV d l->clB d m/\∀b,(l.take k).getLast?=some b->tf b.ti m.ti:=λh=>by have:=h.take (k+1);rw[htk,fV.snoc] at this;exact this.2
  refine go<|cD (λp0=>?_) λp0=>?_;rotate_left
  .exact YU
  refine go<|cD (λp1=>?_) λp1=>?_;rotate_left
  .exact YU
  refine go<|cD (λp2=>?_) λp2=>?_;rotate_left
  .exact YR
  refine go<|cD (λp3=>?_) λp3=>?_;rotate_left
  .exact YR
  refine go ?_;refine cD (λp4=>?_) λp4=>?_;rotate_left
  .exact YP
  refine go ?_;refine cD (λp5=>?_) λp5=>?_;rotate_left
  .exact YP
  refine go ?_;refine cD (λp6=>?_) λp6=>?_;rotate_left
  .exact YM
  refine go ?_;refine cD (λp7=>?_) λp7=>?_;rotate_left
  .exact YM
  have ak:m.right.toNat<n4:=Y;obtain⟨br,be,bk,y,rfl,hy,-,-,aa,rfl⟩:=((a7.ae xu).ae xu2).au ak;have a6:∀V,d.bn[m.right.toNat]? =some V->V=y:=λV h=>by rw[hy] at h;injection h with h;exact h.symm
  refine s_1 ?_;refine idx m.right.toNat Y Y ?_;refine bC ?_;refine fu _ (aa 1 _ U) Yt (.refl _ _) ?_;refine cN (λp8=>?_) λp8=>?_
  .refine go ?_;exact aQ _ U ⟨bad λhk=>by obtain⟨V,e1,e2,-⟩:=(hsn hk).1.2.2.2.2;rw[a6 _ e1] at e2;exact p8 e2,x2⟩
  refine go ?_;refine idx m.right.toNat Y Y ?_;refine bC ?_;refine fu _ (aa 4 _ U) Yt (.refl _ _) ?_;refine Uw ?_;refine cN (λp9=>?_) λp9=>?_
  .refine go ?_;exact aQ _ U ⟨bad λhk=>by obtain⟨V,e1,-,e2⟩:=(hsn hk).1.2.2.2.2;rw[a6 _ e1] at e2;exact p9 e2,x2⟩
  have hcl:clB d m:=⟨Y,Y,Y,Y,y,hy,p8,p9⟩;refine cD (λaq=>?_) λaq=>?_
  .obtain⟨k1,hk1⟩:∃j,k=j+1:=⟨k-1,Y⟩;obtain⟨bp,op,bo,mp,hA,bg,-,-,hcp,rfl⟩:=((hl2.ae xu).ae xu2).au (k:=k1) Y;injection hA with hA;injection hA with ay av;subst ay;subst av;have J:(l.take k).getLast?=some mp:=Yg;refine go ?_;rw[show(k:Int)-1=(k1:Int) from Y];refine idx k1 U Y<|tM _ hcp U Yt (.refl _ _)<|tM _ (.aS B6) U Yt (.refl _ _)<|bW (RG mp m) λu3 O=>?_;refine bN O<|cD (λhge=>?_) λb0=>?_
   .exact aQ _ U ⟨bad λhk=>absurd (zX.2 ((hsn hk).2 mp J)) Y,x2.trans O⟩
   .refine go ?_;refine next (k+1) ⟨Yn,Yt⟩ ⟨Y,(xu.trans xu2).trans O,?_⟩ Y;rw[htk,fV.snoc];exact⟨hok,hcl,λb hb=>by rw[J] at hb;injection hb with hb;subst hb;exact zX.1 Y⟩
  .refine go ?_;refine next (k+1) ⟨Yn,Yt⟩ ⟨Y,xu.trans xu2,?_⟩ Y;rw[htk,fV.snoc];exact⟨hok,hcl,λb hb=>by rw[show k=0 from Y] at hb;cases hb⟩
 .rw[asx Y] at hok;exact aQ (iv 0) U ⟨by rw[hE,asp hok],x02.trans xu⟩
end
end
def mQ:List Od->DM->DM
 |[],f=>f
 |x::l,f=>mQ l (if x.bP then f elseλq=>if q=(x.index,x.aH) then x.aC else f q)
def zw:List Od->Int
 |[]=>0
 |x::l=>(if x.bP=false/\x.index=0 then x.aC else 0)+zw l
def yZ(g:DM)(r h:Int):Nat->Int
 |0=>0
 |k+1=>yZ g r h k+g (r,h-k)
def zx(d:aU)(l:List Od):Bool:=
 ((List.range d.aG.toNat).all λ(h:Nat)=>(List.range d.aD.length).all λr=>
  decide (mQ l (λ_=>0) ((r:Int),(h:Int))<=(dB d r).cap)&&decide (yZ (mQ l λ_=>0) r h (dB d r).bD.toNat<=(dB d r).vN))&&decide (zw l<=d.bH)
def nM(d:aU):Bool:=decide ((d.aD.length:Int)*d.aG>1024)
noncomputable def vy (d:aU)(c:List Cm):Bool:=
 decide (ez d c=0)&&(!nM d&&((eE d c).all (λo=>decide (o.aC<=1073741824))&&(decide ((eE d c).length<=4096)&&
 match gO d (eE d c) with
 |none=>false
 |some s=>decide (s.2.length<=4096)&&zx d (il qu s.2))))
def Oz(d:aU)(c:Cm):Int:=cG d (jh d c.aO.toNat).aZ
def dH(d:aU)(c:Cm):Int:=c.aH-Oz d c
structure Conv (d:aU) (l:List Cm):Prop where
 yj:uT d l
 le:∀i h,cj l i h<=1073741824
 nd:∀w,dT d (nE d (cj l) w)≠none
section
variable {d:aU} {l l':List Cm}
theorem eF(h:fV d l):uT d l:=λc u=>by
 obtain⟨-,J,A,z,-⟩:=h.1 c u;exact⟨J,A,z.1⟩
theorem lP(h:cH d=0):0<=d.aG:=by
 have u:gH d=true:=by
  unfold cH at h;cases h1:jc d with
  |true=>rw[h1] at h;cases h
  |false=>
   rw[h1] at h;cases z:gH d with
   |false=>rw[z] at h;cases h
   |true=>rfl
 obtain⟨A,-⟩:=dA.1 u;have:=(ig.1 A).1;omega
theorem IG(h:vy d l=true):Conv d l/\cH d=0/\fV d l:=by
 unfold vy at h;simp only[asv,asy] at h;obtain⟨h1,h2,W,Z,M⟩:=h;obtain⟨A,-,V⟩:=iB.1 h1;have u:=eF V;have O:=lP A;refine⟨⟨u,λi h=>?_,λw=>?_⟩,A,V⟩
 .by_cases z:cj l i h=0
  .rw[z];decide
  .obtain⟨X,a2,a3⟩:=yb u i h z;have hm:=kD.2 ⟨h.toNat,i,Y,X,by rw[show((h.toNat:Nat):Int)=h from Y];exact z,by rw[show((h.toNat:Nat):Int)=h from Y]⟩;have:=asH.1 W _ hm;rw[asy] at this;exact this
 .cases J:gO d (eE d l) with
  |none=>rw[J] at M;cases M
  |some s=>
   obtain⟨gl,S,-,N,-⟩:=GC A (tj O u) J;have:=N.all w;rw[th O u] at this;rw[this];simp
theorem Conv.PE(C:Conv d l)(w:Int):vY (nE d (cj l) w):=λc u=>by
 unfold nE at u;obtain⟨i,-,rfl⟩:=asS.1 u;exact⟨jT C.yj _ _,C.le _ _⟩
theorem Conv.less(C:Conv d l)(M:cH d=0)(hi:uT d l')(h:∀i h,cj l' i h<=cj l i h):Conv d l':=by
 have le:∀i h,cj l' i h<=1073741824:=λi q=>auJ (h i q) (C.le i q);refine⟨hi,le,λw e=>?_⟩;have A:vY (nE d (cj l') w):=λc u=>by unfold nE at u;obtain⟨i,-,rfl⟩:=asS.1 u;exact⟨jT hi _ _,le _ _⟩
 cases hk:dT d (nE d (cj l) w) with
 |none=>exact C.nd w hk
 |some J=>
  obtain⟨hs,O,-⟩:=yR (gY M) (aw:=nE d (cj l') w) (aw':=nE d (cj l) w) ⟨by rw[ik,ik],λi hi=>by rw[ik] at hi;rw[iY hi,iY hi];exact h _ _⟩ A (C.PE w) _ (asN _) hk
  have z:dG d (nE d (cj l') w) d.aD.length=none:=e;rw[O] at z;cases z
theorem II{i:Nat}{h:Int}:∀{l:List Cm},cj l i h≠0->∃c∈l,c.aO=i/\c.aH=h
 |[],u=>absurd rfl u
 |x::l,u=>by
  unfold cj at u
  by_cases e:x.aO=i/\x.aH=h
  .exact⟨x,ass,e⟩
  .rw[aso e] at u
   obtain⟨c,z,e⟩:=II (l:=l) (i:=i) (h:=h) Y
   exact⟨c,ast _ z,e⟩
theorem Conv.aqG(C:Conv d l)(A:cH d=0)(hw:∀c∈l,0<=dH d c):∃s,gO d (eE d l)=some s:=by
 have u:=lP A;refine Ri A (tj u C.yj) (λw=>?_) λw J i=>?_
 .rw[th u C.yj];exact C.nd w
 .rw[th u C.yj];by_cases hi:i<d.aR.length
  .rw[iY hi];by_cases z:cj l i (w+cG d (jh d i).aZ)=0
   .exact z
   .obtain⟨c,M,V,O⟩:=II z;have:=hw c M;unfold dH Oz at this;rw[show c.aO.toNat=i from Y] at this;omega
  .unfold bL;rw[asC,as1 (by rw[ik];omega)];rfl
end
section
open Classical
variable {d:aU}
structure zC where
 own:Int->Int
 Vv:Int×Int->Bool
 XG:Int×Int->Bool
def aqH:zC:=⟨λ_=>0,λ_=>false,λ_=>false⟩
def uZ(h:Int)(x:zC)(y:gW):zC:=if h<y.dq\/y.to<h then x else if y.kind=3 then{x with XG:=λq=>if q=(y.aO,y.aZ) then true else x.XG q} else if y.kind=2/\x.Vv (y.aO,y.aZ)=false then⟨λr=>if r=y.aZ then x.own r+1 else x.own r,λq=>if q=(y.aO,y.aZ) then true else x.Vv q,x.XG⟩ else x
def kS(l:List gW)(h:Int):zC:=l.foldl (uZ h) aqH
theorem nk{l:List gW}{y:gW}{h:Int}:kS (l++[y]) h=uZ h (kS l h) y:=by unfold kS;rw[aud];rfl
theorem abN{h:Int}{x:zC}{y:gW}(r:Int):x.own r<=(uZ h x y).own r/\(uZ h x y).own r<=x.own r+1:=by
 unfold uZ;split
 .omega
 .exact Yg
theorem KN{l:List gW}{h:Int}(r:Int):∀k,k<=l.length->0<=(kS (l.take k) h).own r/\(kS (l.take k) h).own r<=k
 |0,_=>⟨asO _,asO _⟩
 |k+1,hk=>by
  have A:=KN (l:=l) (h:=h) r k Y
  obtain⟨y,z⟩:=gx l k
  have u:l.take (k+1)=l.take k++[y]:=by rw[asD,z];rfl
  rw[u,nk]
  have:=abN (h:=h) (x:=kS (l.take k) h) (y:=y) r
  omega
def tW(x:zC)(q:Int×Int):Bool:=decide (x.own q.2-(if x.Vv q then 1 else 0)=0) ||x.XG q
def XH(d:aU):Nat->Int->aX
 |0,_=>[]
 |f+1,r=>if r<0 then [] else r::XH d f (dB d r.toNat).up
def wF(d:aU)(r:Int):aX:=(XH d (r+1).toNat r).reverse
def RH(d:aU)(c:Cm):Bool:=(wF d (jh d c.aO.toNat).aZ).all λr=>tW (kS d.bn c.aH) (c.aO,r)
def rgC(d:aU)(k:Nat):gW:=d.bn.getD k ⟨ByteArray.empty,0,0,0,0,0,0,0,0,0⟩
theorem abO{k:Nat}{x:gW}(h:d.bn[k]? =some x):rgC d k=x:=by unfold rgC;rw[asC,h];rfl
def Vw(y:gW)(aH:Int):Bool:=decide (¬(aH<y.dq\/y.to<aH\/y.length<=Int.tmod (aH-y.dq) y.every))
def Cw(d:aU)(aH:Int)(h:tm):Option Cm:=if Vw (rgC d h.right.toNat) aH then some ⟨h.right,h.aO,aH,h.aC,h.cC⟩ else none
def vc(d:aU)(l:List dz)(aH aN:Int):List Cm:=(Hk d l aH aN).filterMap (Cw d aH)
def qy(d:aU)(l:List dz)(dq aN:Int)(n:Nat):List Cm:=(List.range n).flatMap λ(i:Nat)=>vc d l (dq+i) aN
def rZ(dq to:Int):Nat:=(to-dq+1).toNat
def jj(d:aU)(l:List dz)(dq to aN:Int):Int:=if fS d l≠0 then fS d l else if dq<0\/to<dq\/d.aG<=to\/aN<0\/1048576<aN then 1 else if 4096<(to-dq+1)*d.bn.length then 2 else 0
def PE(d:aU)(l:List dz)(dq to aN:Int):List Cm:=(qy d l dq aN (rZ dq to)).filter (RH d)
def gZ(d:aU)(l:List dz)(dq to aN:Int):Int:=if jj d l dq to aN≠0 then jj d l dq to aN else if 4096<(PE d l dq to aN).length then 2 else 0
def zD(d:aU)(l:List dz)(dq to aN:Int):List Cm:=il j7 (PE d l dq to aN)
theorem Cx{l:List dz}:jj d l dq to aN=0↔fS d l=0/\(0<=dq/\dq<=to/\to<d.aG)/\(0<=aN/\aN<=1048576)/\(to-dq+1)*d.bn.length<=4096:=by
 unfold jj;by_cases h1:fS d l=0
 .exact Yg
 .exact Yg
theorem pD{l:List dz}{aH:Int}{c:Cm}(h:c∈vc d l aH aN):∃x∈Hk d l aH aN,c=⟨x.right,x.aO,aH,x.aC,x.cC⟩:=by
 obtain⟨x,u,h1⟩:=aus.1 h;unfold Cw at h1;split at h1
 .exact Yg
 .cases h1
theorem ME{l:List dz}(h:fS d l=0)(aH aN:Int):kI d (rX (uU d.bn) (Cu l aH aN)):=by
 obtain⟨M,-,J⟩:=rY.1 h;refine(RE M).rX λx u=>?_;obtain⟨A,z⟩:=IE u;exact uX J x A z
theorem GJ{l:List dz}(h:fS d l=0){aH aN:Int}{x:tm}(J:x∈Hk d l aH aN):(0<=x.right/\x.right<d.bn.length)/\(0<=x.aO/\x.aO<d.aR.length)/\(1<=x.aC/\x.aC<=1073741824)/\∃y,d.bn[x.right.toNat]? =some y/\y.kind=1/\y.cC=x.cC:=by
 have B:=ME h aH aN;obtain⟨r,f,M,O,u,rfl⟩:=IC.1 J;refine⟨by show 0<=(r:Int)/\(r:Int)<_;omega,by show 0<=(f:Int)/\(f:Int)<_;omega,⟨by show 1<=ml _ _;omega,B.le _⟩,?_⟩;cases A:rX (uU d.bn) (Cu l aH aN) ((r:Int),(f:Int)) with
 |none=>unfold ml at u;rw[A] at u;exact absurd u Yd
 |some v=>
  obtain⟨⟨-,y,z,hk⟩,-⟩:=B.key _ _ A;refine⟨y,z,hk,?_⟩;show y.cC=uv d r;unfold uv;rw[show d.bn[r]? =some y from z]
theorem KO{a b:Cm}(h:a.aH≠b.aH\/a.right≠b.right\/a.aO≠b.aO):j7 a b=true\/j7 b a=true:=by
 rw[mU,mU];unfold tf Cm.ti;simp only;omega
theorem RI{l:List dz}{aH:Int}:(vc d l aH aN).Pairwise λa b=>j7 a b=true\/j7 b a=true:=by
 unfold vc;rw[List.pairwise_filterMap];refine wD.imp λ{x y} A a z b u=>?_;unfold MB at A;rw[asy] at A;unfold Cw at z u;split at z
 .injection z with z;split at u
  .injection u with u;subst z;subst u;refine KO (.inr ?_);show x.right≠y.right\/x.aO≠y.aO;omega
  .cases u
 .cases z
theorem IJ{l:List dz}{n:Nat}:fT j7 (qy d l dq aN n):=by
 unfold fT qy;rw[List.pairwise_flatMap];refine⟨λi _=>RI,(avE (n:=n)).imp λ{i j} u a A b z=>?_⟩;obtain⟨x,-,rfl⟩:=pD A;obtain⟨y,-,rfl⟩:=pD z;refine KO (.inl ?_);show dq+(i:Int)≠dq+(j:Int);omega
theorem Vx{l:List dz}:fT j7 (PE d l dq to aN):=avp _ IJ
theorem RJ{l:List dz}:mH j7 (zD d l dq to aN):=qt BZ Vx
theorem RK{l:List dz}{c:Cm}(h:c∈zD d l dq to aN):(dq<=c.aH/\c.aH<=to)/\c∈vc d l c.aH aN:=by
 have h1:=(cP _).mem_iff.1 h;have z:=(at6.1 h1).1;unfold qy at z;obtain⟨i,hi,u⟩:=auF.1 z;have hi:=as0.1 hi;obtain⟨x,-,e⟩:=pD u;have A:c.aH=dq+i:=by rw[e]
 unfold rZ at hi;exact⟨Y,by rw[A];exact u⟩
theorem Vy{l:List dz}(h:jj d l dq to aN=0):fV d (zD d l dq to aN):=by
 obtain⟨h1,O,-⟩:=Cx.1 h;refine⟨λc A=>?_,RJ.imp λh=>mU.1 h⟩;obtain⟨u,J⟩:=RK A;obtain⟨x,z,e⟩:=pD J;obtain⟨M,a2,a3,a4⟩:=GJ h1 z;rw[e] at u|-;exact⟨M,a2,by show 0<=c.aH/\c.aH<d.aG;have:dq<=c.aH/\c.aH<=to:=u;omega,a3,a4⟩
end
section
variable {w:World}
theorem MF(hn: -4611686018427387904<=n/\n<=4611686018427387904):aK prog 387 #[iv n] w (λv w'=>v=nV n.natAbs/\w'=w):=by
 exact aop
theorem Vz{d:Int}(hn: -4611686018427387904<=n/\n<=4611686018427387904)(hd:1<=d/\d<=4611686018427387904):aA 389 #[iv n,iv d] w (.tuple #[(wC n d).1.v,iv (wC n d).2]):=by
 apply aF func389 Z;refine alloc λb4 w1 h1=>?_;have W:aP w1 b4 96 [iv 0,iv 0]:=h1.aS;have e4:=h1.au;refine cE (λq=>Y) λ_=>?_;apply aJ (MF hn);rintro _ _ ⟨rfl,rfl⟩;apply aJ (MF Y);rintro _ _ ⟨rfl,rfl⟩;refine bW Eo λw2 x2=>?_;have W:=W.ae x2;have J:=h1.ae.trans x2;obtain⟨g,M⟩:∃g,g=Nat.gcd n.natAbs d.natAbs:=⟨_,U⟩;have gp:0<g:=by rw[M];exact Nat.gcd_pos_of_pos_right _ Y
 have gn:g ∣ n.natAbs:=by rw[M];exact Nat.gcd_dvd_left _ _
 have gd:g ∣ d.natAbs:=by rw[M];exact Nat.gcd_dvd_right _ _
 rw[<-M];apply bR (oP [] [] [0,1,2,3,4,5,6,7]) [] (λz=>ax w2 z) mx Z (.refl _ _);apply KM gp Y;apply KM gp Y;obtain⟨x,hx⟩:∃x,x=n.natAbs/g:=⟨_,U⟩;obtain⟨y,hy⟩:∃y,y=d.natAbs/g:=⟨_,U⟩;have e0:wC n d=if 1073741824<max x y then(⟨0,0⟩,2) else(⟨n/(g:Int),d/(g:Int)⟩,0):=by unfold wC;rw[<-M,hx,hy]
 rw[<-hx,<-hy];refine cD (λq=>?_) λq=>?_
 .have V:wC n d=(⟨0,0⟩,2):=by rw[e0,asp Y]
  refine go ?_;refine fg W λX u k3 z3=>?_;have u:aP X b4 96 [iv 0,iv 0]:=u;refine ret ?_;refine da _ (bU (.aS u) U) ?_;exact⟨by rw[V];rfl,J.ag k3 λb O _ e=>Y⟩
 have V:wC n d=(⟨n/(g:Int),d/(g:Int)⟩,0):=by rw[e0,aso Y]
 have a6:n.natAbs=g*x:=by rw[hx];exact(Nat.mul_div_cancel' gn).symm
 have a1:d.natAbs=g*y:=by rw[hy];exact(Nat.mul_div_cancel' gd).symm
 have ey:d/(g:Int)=y:=by
  have:d=(g:Int)*(y:Int):=by rw[<-at4,<-a1];omega
  rw[this];exact au3 _ Y
 refine cvI Y ?_;refine cvI Y ?_;refine hY [iv (x:Int),iv (y:Int)] Z ?_;refine fg W λX u k3 z3=>?_;have A:ax w X:=J.ag k3 λb O _ e=>Y;refine cD (λqn=>?_) λqn=>?_
 .refine cD (λqd=>Y) λ_=>?_;refine neB (λ_=>?_) (λh=>by cases h);refine go ?_;refine st u Yl rfl λw4 a7 k4 z4=>?_;have B5:aP w4 b4 96 [iv (0-(x:Int)),iv (y:Int)]:=a7;refine go ?_;refine fg B5 λw5 B6 k5 z5=>?_;have ex:n/(g:Int)=0-(x:Int):=by
   have:n=(g:Int)*(0-(x:Int)):=by rw[Int.zero_sub,Int.mul_neg,<-at4,<-a6];omega
   rw[this];exact au3 _ Y
  refine ret ?_;refine da _ (bU (.aS B6) U) ?_;exact⟨by rw[V,ex,ey];rfl,(A.ag k4 λb O _ e=>Y).ag k5 λb O _ e=>Y⟩
 .refine cD (λqd=>Y) λ_=>?_;refine neB (λh=>absurd U h) λ_=>?_;refine go ?_;refine fg u λw5 B6 k5 z5=>?_;have ex:n/(g:Int)=(x:Int):=Yg;refine ret<|da _ (bU (.aS B6) U)<|⟨by rw[V,ex,ey];rfl,A.ag k5 λb O _ e=>Y⟩
theorem VA{a b:Q}(O:dR a=true)(M:dR b=true):aA 365 #[a.v,b.v] w (.tuple #[iv (a.n*b.d+b.n*a.d),iv (a.d*b.d)]):=by
 refine aF func365 Z<|box λba V h1=>box λbb A u=>?_;have Ba:=h1.aS.ae u.ae;have Bb:=u.aS;have X:=cV.1 O;have W:=cV.1 M;have p1:=lW (x:=a.n) (y:=b.d) Y Y;have p2:=lW (x:=b.n) (y:=a.d) Y Y;have p3:=lW (x:=a.d) (y:=b.d) Y Y;refine bR (oP [] [] [0,1,2,3,4,5,6,7,8,9,10,11,12,13,14,15,16,17]) [] (λz=>ax A z) mx Z (.refl _ _) ?_;refine go ?_;exact ret ⟨U,h1.ae.trans u.ae⟩
theorem am5{a b:Q}:aA 366 #[.agg #[.func (.func 365) #[] #[]],a.v,b.v] w (.tuple #[(nW a b).1.v,iv (nW a b).2]):=by
 refine aF func366 Z ?_;refine box λbo w1 h1=>?_;refine box λba w2 h2=>?_;refine box λbb w3 W=>?_;refine alloc λb6 w4 M=>?_;have x4:=((h1.ae.trans h2.ae).trans W.ae).trans M.ae;have e6:=M.au;have s6:=(((h1.ae.trans h2.ae).trans W.ae)).size;have Bo:aP w4 bo 500 [.func (.func 365) #[] #[]]:=h1.aS.ae ((h2.ae.trans W.ae).trans M.ae);have Ba:aP w4 ba 96 [iv a.n,iv a.d]:=h2.aS.ae (W.ae.trans M.ae);have Bb:aP w4 bb 96 [iv b.n,iv b.d]:=W.aS.ae M.ae;have u:aP w4 b6 96 [iv 0,iv 0]:=M.aS;have bad:(dR a&&dR b)=false->nW a b=(⟨0,0⟩,120):=λh=>by unfold nW;rw[h];rfl
 refine go ?_;refine bW pk λw5 x5=>?_;obtain⟨Ba,Bb,Bo,u⟩:=Xj x5 Ba Bb Bo u;have V:=x4.trans x5;cases J:dR a with
 |false=>
  rw[show tO a=120 by unfold tO;rw[J];rfl];refine cN (λ_=>?_) λh=>absurd h Yd;refine go ?_;refine fg u λw6 z k6 z6=>?_;have z:aP w6 b6 96 [iv 0,iv 0]:=z;refine ret ?_;refine da _ (bU (.aS z) U) ?_;exact⟨by rw[bad (by rw[J];rfl)];rfl,V.ag k6 λb hb _ e=>Y⟩
 |true=>
  rw[show tO a=0 by unfold tO;rw[J];rfl];refine cN (λh=>absurd U h) λ_=>?_;refine go ?_;refine bW pk λw6 x6=>?_;obtain⟨Ba,Bb,Bo,u⟩:=Xj x6 Ba Bb Bo u;have O:=V.trans x6;cases A:dR b with
  |false=>
   rw[show tO b=120 by unfold tO;rw[A];rfl];refine cN (λ_=>?_) λh=>absurd h Yd;refine go ?_;refine fg u λw7 z k7 z7=>?_;have z:aP w7 b6 96 [iv 0,iv 0]:=z;refine ret<|da _ (bU (.aS z) U)<|⟨by rw[bad (by rw[A,atA])];rfl,O.ag k7 λb hb _ e=>Y⟩
  |true=>
   rw[show tO b=0 by unfold tO;rw[A];rfl];refine cN (λh=>absurd U h) λ_=>?_;have X:nW a b=wC (a.n*b.d+b.n*a.d) (a.d*b.d):=by unfold nW;rw[J,A];rfl
   have a7:=cV.1 J;have a6:=cV.1 A;have p1:=lW (x:=a.n) (y:=b.d) Y Y;have p2:=lW (x:=b.n) (y:=a.d) Y Y;have p3:=lW (x:=a.d) (y:=b.d) Y Y;have p4:0<a.d*b.d:=auv Y Y;refine go<|bW (VA J A) λw7 x7=>?_;refine bW (Vz Y Y) λw8 x8=>?_;have u:=(u.ae x7).ae x8;have a1:=(O.trans x7).trans x8;rw[<-X];refine fg u λw9 B9 k9 z9=>?_;refine ret<|da _ (bU (.aS B9) U)<|⟨U,a1.ag k9 λb hb _ e=>Y⟩
theorem abP{a b:Q}:aA 305 #[a.v,b.v] w (.tuple #[(nW a b).1.v,iv (nW a b).2]):=by
 refine aF func305 Z<|box λba w2 A=>box λbb w3 z=>alloc λb6 V u=>?_;have O:=(A.ae.trans z.ae).trans u.ae;have e6:=u.au;have s6:=(A.ae.trans z.ae).size;have Ba:=A.aS.ae (z.ae.trans u.ae);have Bb:=z.aS.ae u.ae;have J:aP V b6 96 [iv 0,iv 0]:=u.aS;refine hY _ Z<|go<|bW am5 λw5 M=>?_;have J:=J.ae M;refine fg J λw9 B9 X z9=>?_;refine ret<|da _ (bU (.aS B9) U)<|⟨U,(O.trans M).ag X λb hb _ e=>Y⟩
end
section
variable {w:World}
theorem Cy:aK prog 65 #[iv n,iv lo,iv hi] w (λv w'=>v=.bool (dS n lo hi)/\w'=w):=by
 refine aF func65 Z<|HF (λg1=>?_) λg1=>?_
 .exact uB
 exact g_8
theorem oV:aK prog 98 #[iv n,iv lo,iv hi] w (λv w'=>v=.bool (dS n lo hi)/\w'=w):=by
 refine aF func98 Z<|HF (λg1=>?_) λg1=>?_
 .exact uB
 exact g_8
theorem vd:aK prog 149 #[iv n,iv lo,iv hi] w (λv w'=>v=.bool (dS n lo hi)/\w'=w):=by
 refine aF func149 Z<|HF (λg1=>?_) λg1=>?_
 .exact uB
 exact g_8
end
structure r9 where
 no:Int
 nX:Int
 au:Int
 aN:Int
abbrev r9.c(x:r9):aW:=[iv x.no,iv x.nX,iv x.au,iv x.aN]
def XI:Ty r9:=JS 4 r9.c λ_=>rfl
def UE(m:Nat)(x:r9):Bool:=decide (x.no<=1048576)&&(dS x.nX 0 ((m:Int)-1)&&(dS x.au 0 4096&&dS x.aN x.au 1048576))
def Cz(m:Nat):Int->List r9->Bool
 |_,[]=>true
 |last,x::l=>decide (last<x.no)&&(UE m x&&Cz m x.no l)
def iC(d:aU)(l:List r9):Int:=if cH d≠0 then cH d else if 512<l.length then 2 else if Cz d.ed.length (-1) l then 0 else 300
section
variable {D:Nat->Prop} {w:World} {A:Option Addr} {n c:Nat}
theorem y7{n:Int}:aK prog 103 #[iv n,iv lo,iv hi] w (λv w'=>v=.bool (dS n lo hi)/\w'=w):=by
 refine aF func103 Z<|HF (λg1=>?_) λg1=>?_
 .exact uB
 exact g_8
set_option maxRecDepth 8000 in
theorem CA{a6:aW}{xs:List r9}(hd:iG D w a6 d)(h:bS XI D w A n xs):aA 58 #[.agg a6.toArray,aB A n c] w (iv (iC d xs)):=by
 have a8:=hd;have hl:=h.an;have hle:=h.le;obtain⟨A1,n1,c1,A2,n2,c2,A3,n3,c3,A4,n4,c4,A5,n5,c5,A6,n6,c6,rfl,-,-,-,-,X,-⟩:=hd.ex;have V:=X.an;have aa:=X.le;refine aF func58 Z<|box λb2 w1 h1=>?_;have B2:=h1.aS;refine go ?_;refine bW (ko (a8.ae h1.ae)) λw2 x2=>?_;have B2:=B2.ae x2;have z:=h1.ae.trans x2;obtain⟨e,he⟩:∃e,e=cH d:=⟨_,U⟩;rw[<-he];refine cN (λq=>?_) λq=>?_
 .exact aQ (iv e) U ⟨by unfold iC;rw[<-he,asp q],z⟩
 have e0:iC d xs=if 512<xs.length then 2 else if Cz d.ed.length (-1) xs then 0 else 300:=by unfold iC;rw[<-he,aso (by simpa using q)]
 refine an ?_;refine cD (λq=>?_) λq=>?_
 .exact aQ (iv 2) U ⟨by rw[e0,asp Y],z⟩
 have e1:iC d xs=if Cz d.ed.length (-1) xs then 0 else 300:=by rw[e0,aso Y]
 refine an ?_;refine aM (λs:Nat×Int=>[(18,iv (s.1:Int)),(5,iv s.2)]) (λs u=>s.1<=n/\ax w2 u/\Cz d.ed.length (-1) xs=Cz d.ed.length s.2 (xs.drop s.1)) (λs _=>n-s.1) (0,-1) ⟨U,U,Yt⟩ ⟨by show 0<=n;omega,.refl _ _,U⟩ U ?_;rintro G ⟨k,last⟩ u ⟨hk,M,hi⟩;simp only at hk hi;refine cD (λab=>?_) λaf=>?_
 .obtain⟨b,o,cs,x,rfl,hx,a7,-,hc,rfl⟩:=((h.ae z).ae M).au (show k<n from Y);rw[a7] at hi;refine go ?_;refine alloc λb6 u1 a1=>?_;refine fg a1.aS λu2 B6 k2 z2=>?_;have e6:=a1.au;have J:ax u u2:=a1.ae.ag k2 λb hb _ e=>Y;have O:=z.trans (M.trans J);have B2:=(B2.ae M).ae J;have W:Cz d.ed.length (-1) xs=(decide (last<x.no)&&(UE d.ed.length x&&Cz d.ed.length x.no (xs.drop (k+1)))):=hi;have bad:(last<x.no->UE d.ed.length x=false)->iv 300=iv (iC d xs):=λg=>by
   rw[e1,W];by_cases q:last<x.no
   .rw[g q];simp
   .rw[asG q];rfl
  refine go ?_;refine cD (λp1=>?_) λp1=>?_
  .exact aQ _ U ⟨bad λg=>Y,O⟩
  refine go ?_;refine cD (λp2=>?_) λp2=>?_
  .exact aQ _ U ⟨bad λ_=>(by unfold UE;rw[asG Y];rfl),O⟩
  refine go ?_;refine cR y7 (λp3=>?_) λp3=>?_;rotate_left
  .exact aQ _ U ⟨bad λ_=>(by unfold UE;rw[V,p3];simp),O⟩
  refine go ?_;refine cR y7 (λp4=>?_) λp4=>?_;rotate_left
  .exact aQ _ U ⟨bad λ_=>(by unfold UE;rw[p4];simp),O⟩
  refine go ?_;refine cR y7 (λp5=>?_) λp5=>?_;rotate_left
  .exact aQ (iv 300) U ⟨bad λ_=>(by unfold UE;rw[p5];simp),O⟩
  refine go ?_;refine next (k+1,x.no) ⟨by show iv _=iv _;rw[asA];rfl,U,Yt⟩ ⟨by show k+1<=n;omega,M.trans J,?_⟩ Yg;rw[W];unfold UE;rw[V,p3,p4,p5,asE (show last<x.no from Y),asE (show x.no<=1048576 from Y)];rfl
 .refine aQ _ U ⟨?_,z.trans M⟩;rw[e1,hi,as8 Y];rfl
end
section
open Classical
def fM(aN:Int):List r9->Int->Option Int
 |l=>λd=>l.foldl (λo x=>if x.aN<=aN/\x.nX=d then(match o with|none=>some x.au|some a=>some (min x.au a)) else o) none
theorem ve{l:List r9}{x:r9}(d:Int):fM aN (l++[x]) d=if x.aN<=aN/\x.nX=d then(match fM aN l d with|none=>some x.au|some a=>some (min x.au a)) else fM aN l d:=by
 unfold fM;rw[aud];rfl
section
variable {D:Nat->Prop} {w:World} {A:Option Addr} {n c:Nat}
theorem VB{aN:Int}{xs:List r9}(h:bS XI D w A n xs):aK prog 204 #[aB A n c,iv aN] w (λv w'=>ax w w'/\∃g,v=.map (some g)/\w.heap.size<=g/\dw fY w' g λd=>(fM aN xs d).map iv):=by
 have hl:=h.an;have hle:=h.le;refine aF (args:=[aB A n c,iv aN]) func204 Z ?_;refine qV λg w1 hg a6=>?_;have x1:ax w w1:=by rw[a6];exact aj.alloc _ _ _
 have M1:dw fY w1 g (λd=>(fM aN (xs.take 0) d).map iv):=by rw[a6,hg];exact dw.new fY w
 have lg:=M1.lt;refine an ?_;refine aM (λk:Nat=>[(13,iv (k:Int))]) (λk u=>k<=n/\ax w u/\g<u.heap.size/\dw fY u g λd=>(fM aN (xs.take k) d).map iv) (λk _=>n-k) 0 ⟨U,Yt⟩ ⟨Y,x1,lg,M1⟩ U ?_;rintro G k u ⟨hk,X,lu,M⟩;refine cD (λa8=>?_) λaa=>?_
 .obtain⟨b,o,cs,x,rfl,hx,-,-,hc,rfl⟩:=(h.ae X).au (show k<n from Y);have W:xs.take (k+1)=xs.take k++[x]:=by rw[asD,hx];rfl
  refine idx k U Y ?_;refine fj x.c hc U ?_;refine alloc λb6 u1 a1=>?_;refine jR (vs:=x.c) a1.aS U Yl Ys λu2 V k2 z2=>?_;have V:aP u2 b6 297 x.c:=V;have e6:=a1.au;have z:ax u u2:=a1.ae.ag k2 λb hb _ e=>Y;have M2:=M.ah z Yt;have a7:=z.size;have same:¬(x.aN<=aN)->(λd=>(fM aN (xs.take (k+1)) d).map iv)=λd=>(fM aN (xs.take k) d).map iv:=λg=>by funext d;rw[W,ve,aso λq=>g q.1]
  refine bC ?_;refine ld (iv x.aN) (V.ai U) ?_;refine cD (λp1=>?_) λp1=>?_
  .refine eD (n:=(k:Int)+1) Y ?_;refine next (k+1) ⟨Yn,Yt⟩ ⟨Y,X.trans z,Y,by rw[same Y];exact M2⟩ Y
  refine bC ?_;refine ld (iv x.nX) (V.ai U) ?_;have put:∀(a:Int),(match fM aN (xs.take k) x.nX with|none=>some x.au|some a=>some (min x.au a))=some a->dZ (λd=>(fM aN (xs.take k) d).map iv) x.nX (iv a)=λd=>(fM aN (xs.take (k+1)) d).map iv:=λa ha=>by
   funext d;unfold dZ;rw[W,ve];by_cases e:d=x.nX
   .rw[asp e,asp ⟨Y,e.symm⟩,e,ha];rfl
   .rw[aso e,aso λq=>e q.2.symm]
  refine Kz (kv:=fY) x.nX ((fM aN (xs.take k) x.nX).map iv) (λu hu=>by subst hu;exact⟨_,M2,U⟩) (λv O=>?_) λO=>?_
  .obtain⟨a0,J⟩:∃a0,fM aN (xs.take k) x.nX=some a0:=by
    cases hq:fM aN (xs.take k) x.nX with
    |none=>rw[hq] at O;cases O
    |some a0=>exact⟨a0,U⟩
   rw[J] at O;injection O with O;subst O;refine bC ?_;refine ld (iv x.au) (V.ai U) ?_;refine cD (λp2=>?_) λp2=>?_
   .refine bC ?_;refine ld (iv x.nX) (V.ai U) ?_;refine bC ?_;refine ld (iv x.au) (V.ai U) ?_;refine kV (kv:=fY) x.nX (v:=iv x.au) M2 λu3 M3 k3 s3=>?_;refine eD (n:=(k:Int)+1) Y ?_;refine next (k+1) ⟨Yn,Yt⟩ ⟨Y,(X.trans z).ag k3 λb hb _ e=>Y,Y,?_⟩ Y;rw[<-put x.au (by rw[J];show some (min x.au a0)=_;rw[Int.min_eq_left Y])];exact M3
   .refine eD (n:=(k:Int)+1) Y ?_;refine next (k+1) ⟨Yn,Yt⟩ ⟨Y,X.trans z,Y,?_⟩ Y;have e:(λd=>(fM aN (xs.take (k+1)) d).map iv)=λd=>(fM aN (xs.take k) d).map iv:=by
     funext d;rw[W,ve];by_cases q:x.aN<=aN/\x.nX=d
     .rw[asp q,<-q.2,J];show Option.map iv (some (min x.au a0))=_;rw[Int.min_eq_right Y]
     .rw[aso q]
    rw[e];exact M2
  .have J:fM aN (xs.take k) x.nX=none:=by
    cases hq:fM aN (xs.take k) x.nX with
    |none=>rfl
    |some a0=>rw[hq] at O;cases O
   refine bC ?_;refine ld (iv x.nX) (V.ai U) ?_;refine bC ?_;refine ld (iv x.au) (V.ai U) ?_;refine kV (kv:=fY) x.nX (v:=iv x.au) M2 λu3 M3 k3 s3=>?_;refine eD (n:=(k:Int)+1) Y ?_;refine next (k+1) ⟨Yn,Yt⟩ ⟨Y,(X.trans z).ag k3 λb hb _ e=>Y,Y,?_⟩ Y;rw[<-put x.au (by rw[J])];exact M3
 .have e:xs.take k=xs:=asx Y;rw[e] at M;exact aQ (.map (some g)) U ⟨X,g,U,Y,M⟩
end
instance ap3:F4 prog 96:=⟨by kernel_rfl⟩
section
variable {D:Nat->Prop} {w:World} {A:Option Addr} {n c:Nat}
theorem RM{x:dz}(hn:n=x.parts.length):aA 225 #[.agg (x.cc A n c).toArray] w (.bool (uw x)):=by
 apply aF func225 Z;refine box λb w1 h1=>?_;have e1:=h1.au;have B0:=h1.aS;refine go ?_;refine st B0 Yl rfl λw2 B2 k2 z2=>?_;have x2:=h1.ae.ag k2 λb hb _ e=>Y;refine go ?_;refine st B2 Yl rfl λw3 B3 k3 z3=>?_;have x3:=x2.ag k3 λb hb _ e=>Y;refine go ?_;refine st B3 Yl rfl λw4 B4 k4 z4=>?_;have x4:=x3.ag k4 λb hb _ e=>Y;refine go ?_;refine cE (λq1=>?_) λq1=>?_
 .refine adM ?_;intro w5 B5 k5 z5 x5 w6 B6 k6 z6 x6;refine go ?_;refine st B6 Yl rfl λw7 B7 k7 z7=>?_;have x7:=x6.ag k7 λb hb _ e=>Y;refine go<|cE (λp1=>?_) λp1=>?_;rotate_left
  .exact JQ
  refine go<|cE (λp2=>?_) λp2=>?_;rotate_left
  .exact JQ
  refine go ?_;refine cE (λp3=>?_) λp3=>?_;rotate_left
  .exact JQ
  exact Y2
 refine cE (λq2=>?_) λq2=>?_
 .refine adM ?_;intro w5 B5 k5 z5 x5 w6 B6 k6 z6 x6;refine go ?_;refine st B6 Yl rfl λw7 B7 k7 z7=>?_;have x7:=x6.ag k7 λb hb _ e=>Y;refine go<|cE (λp1=>?_) λp1=>?_;rotate_left
  .exact JQ
  refine go<|cE (λp2=>?_) λp2=>?_;rotate_left
  .exact JQ
  refine go<|cE (λp3=>?_) λp3=>?_;rotate_left
  .exact JQ
  exact Y2
 refine cE (λq3=>?_) λq3=>?_
 .refine adM ?_;intro w5 B5 k5 z5 x5 w6 B6 k6 z6 x6;refine go<|cE (λp1=>?_) λp1=>?_;rotate_left
  .exact TO
  refine go<|cE (λp2=>?_) λp2=>?_;rotate_left
  .exact TO
  refine go<|cE (λp3=>?_) λp3=>?_;rotate_left
  .exact TO
  refine go<|cE (λp4=>?_) λp4=>?_;rotate_left
  .exact TO
  refine go ?_;refine cE (λp5=>?_) λp5=>?_;rotate_left
  .exact TO
  exact aQ (.bool true) U ⟨by unfold uw;rw[asE Y],x6⟩
 refine cE (λq4=>?_) λq4=>?_
 .refine go ?_;refine st B4 Yl rfl λw5 B5 k5 z5=>?_;have x5:=x4.ag k5 λb hb _ e=>Y;refine go<|cE (λp1=>?_) λp1=>?_;rotate_left
  .exact TP
  refine go<|cE (λp2=>?_) λp2=>?_;rotate_left
  .exact TP
  refine go<|cE (λp3=>?_) λp3=>?_;rotate_left
  .exact TP
  refine go<|cE (λp4=>?_) λp4=>?_;rotate_left
  .exact TP
  refine go<|cE (λp5=>?_) λp5=>?_;rotate_left
  .exact TP
  exact aQ (.bool true) U ⟨by unfold uw;rw[asE Y],x5⟩
 refine go<|cE (λp1=>?_) λp1=>?_;rotate_left
 .exact TQ
 refine go<|cE (λp2=>?_) λp2=>?_;rotate_left
 .exact TQ
 refine go<|cE (λp3=>?_) λp3=>?_;rotate_left
 .exact TQ
 refine go<|cE (λp4=>?_) λp4=>?_;rotate_left
 .exact TQ
 refine go<|cE (λp5=>?_) λp5=>?_;rotate_left
 .exact TQ
 exact aQ (.bool true) U ⟨by unfold uw;rw[asE Y],x4⟩
noncomputable def ux (seen:aX):Int->Option Value:=λi=>if i∈seen then some (.bool true) else none
set_option maxRecDepth 4000 in
theorem OA{a7:aW}{ps:List vw}(hd:iG D w a7 d)(h:bS DR D w A n ps):aA 226 #[.agg a7.toArray,aB A n c] w (.bool (lL d.aR.length ps)):=by
 have hl:=h.an;have hle:=h.le;obtain⟨A1,n1,c1,A2,n2,c2,A3,n3,c3,A4,n4,c4,A5,n5,c5,A6,n6,c6,rfl,-,hf,-⟩:=hd.ex;have lf:=hf.an;have aq:=hf.le;apply aF func226 Z;refine Zn ?_;intro b2 w1 h1 B2;apply hY [iv 0,iv 1] Z;refine qV λg w2 hg a6=>?_;have x2:ax w1 w2:=by rw[a6];exact aj.alloc _ _ _
 have M2:dw fY w2 g (λ_=>none):=by rw[a6,hg];exact dw.new fY w1
 have lg:=M2.lt;refine alloc λb5 w3 h3=>?_;refine fg h3.aS λw4 B5 k4 z4=>?_;have e5:=h3.au;have s1:=h1.size;have s2:=x2.size;have x4:=((h1.ae.trans x2).trans h3.ae).ag k4 λb hb _ e=>Y;have M4:=(M2.ah h3.ae Yt).ah k4 Y;have B2:=(B2.ae (x2.trans h3.ae)).ah k4 (by have:=B2.lt;omega);have be:b2<b5:=by have:=h1.au;have:=h1.size;omega
 have av:g<b5:=Y;have b0:b2<g:=by have:=h1.au;have:=h1.size;omega
 have ay:w.heap.size<=b2:=by have:=h1.au;omega
 apply an;refine aM (λk:Nat=>[(15,iv (k:Int))]) (λk u=>k<=n/\ax w u/\aP u b2 31 [.string d.name,iv d.aG,iv d.cap,iv d.bH,aB A1 n1 c1,aB A2 n2 c2,aB A3 n3 c3,aB A4 n4 c4,aB A5 n5 c5,aB A6 n6 c6]/\∃seen s,aP u b5 96 [iv s.n,iv s.d]/\dw fY u g (ux seen)/\jq d.aR.length ps [] ⟨0,1⟩=jq d.aR.length (ps.drop k) seen s) (λk _=>n-k) 0 ⟨U,Yt⟩ ⟨Y,x4,B2,[],⟨0,1⟩,B5,by
  have e:ux []=λ_=>none:=by funext i;unfold ux;simp
  rw[e];exact M4,U⟩ U ?_
 rintro G k u ⟨hk,xu,ak,seen,s,B5u,M,he⟩;have bad:jq d.aR.length ps [] ⟨0,1⟩=none->Value.bool false=.bool (lL d.aR.length ps):=λh=>by unfold lL;rw[h]
 refine cD (λhlt=>?_) λhge=>?_
 .obtain⟨b,o,cs,p,rfl,hp,aa,-,hc,rfl⟩:=(h.ae xu).au (show k<n from Y);rw[aa] at he;refine go ?_;refine alloc λb8 u1 a1=>?_;refine fg a1.aS λu2 B8 k2 z2=>?_;have B8:=B8;have e8:=a1.au;have xu2:=a1.ae.ag k2 λb hb _ e=>Y;have x02:=xu.trans xu2;have O:=ak.ae xu2;have J:=B5u.ae xu2;have Mv:=M.ah xu2 Yt;have no:(dS p.aO 0 ((d.aR.length:Int)-1)&&(!decide (p.aO∈seen)&&decide (0<p.q.n)))=false->jq d.aR.length ps [] ⟨0,1⟩=none:=λh=>by rw[he];unfold jq;rw[h];rfl
  refine go<|cR oV (λq1=>?_) λq1=>?_;rotate_left
  .exact aQ _ U ⟨bad (no (by rw[lf,q1];rfl)),x02⟩
  refine go ?_;by_cases q2:p.aO∈seen
  .refine dh (kv:=fY) p.aO (.bool true) (λu hu=>by subst hu;exact⟨_,Mv,by unfold ux;rw[asp q2];rfl⟩)<|aQ _ U ⟨bad (no (by rw[asE q2,awj,avl,atA])),x02⟩
  refine dh (kv:=fY) p.aO (.bool false) (λu hu=>by subst hu;exact⟨_,Mv,by unfold ux;rw[aso q2];rfl⟩) ?_;refine go ?_;refine cD (λq3=>?_) λq3=>?_
  .exact aQ _ U ⟨bad (no (by rw[asG (show¬0<p.q.n from Y),atA,atA])),x02⟩
  have go:jq d.aR.length ps [] ⟨0,1⟩=if(nW s p.q).2=0 then jq d.aR.length (ps.drop (k+1)) (p.aO::seen) (nW s p.q).1 else none:=by rw[he];show(if(dS p.aO 0 ((d.aR.length:Int)-1)&&(!decide (p.aO∈seen)&&decide (0<p.q.n)))=true then _ else _)=_;rw[lf,q1,asG q2,asE (show 0<p.q.n from Y)];rfl
  refine bC ?_;refine ld _ (B8.ai U) ?_;refine kV (kv:=fY) p.aO (v:=.bool true) Mv λu3 M3 k3 s3=>?_;have x03:=x02.ag k3 λb hb _=>Y;have B8:=B8.ah k3 (by have:=M.lt;omega);have J:=J.ah k3 Y;have O:=O.ah k3 Y;refine fj _ (.aS J) U<|bC<|fj _ ((bF.aS B8).JR 1 2) U<|bW (abP (a:=s) (b:=p.q)) λu4 V=>?_;obtain⟨r,hr⟩:∃r,r=(nW s p.q).1:=⟨_,U⟩;obtain⟨e,a8⟩:∃e,e=(nW s p.q).2:=⟨_,U⟩;rw[<-hr,<-a8] at go|-;refine alloc λb9 u5 a9=>jR a9.aS U Yl Ys λu6 B9 k6 z6=>?_;have e9:=a9.au;have x36:=(V.trans a9.ae).ag k6 λb hb _ e=>by have:=V.size;omega
  refine cN (λq4=>?_) λq4=>?_
  .exact aQ _ U ⟨bad (by rw[go,aso q4]),x03.trans x36⟩
  have J:=J.ae x36;have M3:=M3.ah x36 Yt;refine fj _ (.aS B9) U<|jR (vs:=[iv r.n,iv r.d]) J U Yl Ys λu7 B7 k7 z7=>?_;refine eD (n:=(k:Int)+1) Y<|next (k+1) ⟨Yn,Yt⟩ ⟨Y,(x03.trans x36).ag k7 λb hb _=>Y,(O.ae x36).ah k7 Y,p.aO::seen,r,B7,?_,by rw[go,asp Y]⟩ Y;have af:ux (p.aO::seen)=dZ (ux seen) p.aO (.bool true):=by
   funext i;by_cases e:i=p.aO
   .simp[ux,dZ,e]
   .by_cases e2:i∈seen
    .simp[ux,dZ,e,e2]
    .simp[ux,dZ,e,e2]
  rw[af];exact M3.ah k7 Y
 .have he:jq d.aR.length ps [] ⟨0,1⟩=some s:=by rw[he,as8 Y];rfl
  have ew:lL d.aR.length ps=(dS ps.length 1 16&&(decide (s.n=1)&&decide (s.d=1))):=by unfold lL;rw[he]
  refine an<|cR oV (λq1=>?_) λq1=>?_;rotate_left
  .exact aQ (.bool false) U ⟨by rw[ew,hl,q1];rfl,xu⟩
  refine go<|hY [iv 1,iv 1] Z<|Uz ((s.n == 1)&&((s.d == 1)&&true)) Z (λq=>?_) λq=>?_
  .rw[avJ,asv,avB,avB] at q;exact aQ _ U ⟨by rw[ew,hl,q1,q.1,q.2];rfl,xu⟩
  .rw[avJ,avP,av2,av2] at q;refine aQ _ U ⟨?_,xu⟩;rw[ew,hl,q1];rcases q with q|q
   .rw[asG q];rfl
   .rw[asG q,atA];rfl
end
def RO(e:UD)(f:Int->Option Value):Prop:=∀n,match e n with
 |none=>f n=none
 |some y=>∃(x:dz) (A:bZ) (m c:Nat),f n=some (.agg (x.cc A m c).toArray)/\x.kind=y.1/\x.aN=y.2
section
variable {D:Nat->Prop} {w:World} {A:Option Addr} {n c:Nat}
set_option maxRecDepth 8000 in
set_option maxHeartbeats 1000000 in
theorem IK{V:aW}{x:dz}{e:UD}{g:Nat}{f:Int->Option Value}(hd:iG D w V d)(hx:bS DR D w A n x.parts)(M:dw fY w g f)(hR:RO e f):aA 146 #[.agg V.toArray,.map (some g),.agg (x.cc A n c).toArray] w (.bool (pA d e x)):=by
 have hd0:=hd;have hl:=hx.an;obtain⟨A1,n1,c1,A2,n2,c2,A3,n3,c3,A4,n4,c4,A5,n5,c5,A6,n6,c6,rfl,-,hf,-,J,-⟩:=hd.ex;have lf:=hf.an;have aa:=hf.le;have lr:=J.an;have a8:=J.le;refine aF func146 Z<|box λb3 w1 h1=>box λb5 w2 h2=>?_;have B3:=h1.aS.ae h2.ae;have B5:=h2.aS;have x02:=h1.ae.trans h2.ae;refine go ?_;refine cR oV (λp1=>?_) λp1=>?_;rotate_left
 .exact aQ _ U ⟨by unfold pA;rw[p1];rfl,x02⟩
 refine go ?_;refine cR oV (λp2=>?_) λp2=>?_;rotate_left
 .exact aQ _ U ⟨by unfold pA;rw[p1,p2];rfl,x02⟩
 refine go ?_;refine cR oV (λp3=>?_) λp3=>?_;rotate_left
 .exact aQ _ U ⟨by unfold pA;rw[p1,p2,p3];rfl,x02⟩
 refine go ?_;refine dt (RM (x:=x) Y) (λw3 p4 x3=>?_) λw3 p4 x3=>?_;rotate_left
 .exact aQ _ U ⟨by unfold pA;rw[p1,p2,p3,p4];rfl,x02.trans x3⟩
 have x03:=x02.trans x3;obtain⟨B3,B5⟩:=zQ x3 B3 B5;have M:=M.ah x03 Yt;have fE:pA d e x=mq d e x:=by unfold pA;rw[p1,p2,p3,p4];rfl
 have O:=J.ae x03;refine go ?_;refine cR oV (λr1=>?_) λr1=>?_;rotate_left
 .have hb:pz d x=false:=by unfold pz;rw[lr,r1];rfl
  exact Zg
 have a6:=bO.1 r1;obtain⟨br,a7,ak,y,rfl,hy,-,-,af,rfl⟩:=O.au (show x.right.toNat<n4 from Y);refine go ?_;refine idx x.right.toNat Y Y ?_;refine go ?_;refine cE (λr2=>?_) λr2=>?_;rotate_left
 .have hb:pz d x=false:=by unfold pz;rw[hy];simp only;rw[asG r2,avl,atA]
  refine go<|cE (λq1=>?_) λq1=>?_
  .exact X2
  exact Y3
 refine go ?_;refine cR oV (λr3=>?_) λr3=>?_;rotate_left
 .have hb:pz d x=false:=by unfold pz;rw[lf,r3,atA,atA]
  exact Zg
 have hb:pz d x=true:=by unfold pz;rw[lr,r1,hy,lf,r3];simp only;rw[asE r2];rfl
 refine go ?_;refine cE (λq1=>?_) λq1=>?_
 .have kE:mq d e x=(dS x.to 0 ((n2:Int)-1)&&decide (x.to≠x.dq)):=by unfold mq;rw[asp q1,hb,lf];rfl
  refine go ?_;refine cR oV (λt1=>?_) λt1=>?_;rotate_left
  .exact aQ _ U ⟨by rw[fE,kE,t1];rfl,x03⟩
  refine go ?_;refine cN (λt2=>?_) λt2=>?_
  .exact aQ _ U ⟨by rw[fE,kE,t1,asE t2];rfl,x03⟩
  .exact aQ (.bool false) U ⟨by rw[fE,kE,asG λh=>h t2,atA],x03⟩
 refine cE (λq2=>?_) λq2=>?_
 .have kE:mq d e x=lL d.aR.length x.parts:=by unfold mq;rw[aso q1,asp q2,hb];rfl
  refine go ?_;refine dt (OA (hd0.ae x03) (hx.ae x03)) (λw4 t1 x4=>?_) λw4 t1 x4=>?_
  .exact aQ (.bool true) U ⟨by rw[fE,kE,t1],x03.trans x4⟩
  .exact aQ (.bool false) U ⟨by rw[fE,kE,t1],x03.trans x4⟩
 refine cE (λq3=>?_) λq3=>?_
 .exact aQ (.bool true) U ⟨by rw[fE];unfold mq;rw[aso q1,aso q2,asp q3,hb],x03⟩
 exact g_2
end
end
end Go.Proofs.YtakcjkbnfegidaaGreat
