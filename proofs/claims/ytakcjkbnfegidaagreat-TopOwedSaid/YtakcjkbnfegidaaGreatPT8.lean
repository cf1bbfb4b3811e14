/- Part. -/
import Derived.Test.YtakcjkbnfegidaaGreatPT7
set_option linter.all false
namespace Go.Proofs.YtakcjkbnfegidaaGreat
open Go Go.RowKit Tryz
variable{xs:List dz}{A:bZ}{b g n:Nat}{u w w0:World}{rest:aW}{k:Int×Int}{l:List Cm}{fn:FuncId}{caps:Array Value}{s:List Od}{tb tk:TypeId}
section
open Classical
section
variable {D:Nat->Prop} {w:World} {A:Option Addr} {n c:Nat}
theorem KP{x:dz}(J:n=x.parts.length):aA 145 #[.agg (x.cc A n c).toArray] w (.bool (!pB x)):=by
 refine aF func145 Z<|box λb z h1=>go<|ld _ (h1.aS.ai U)<|an<|cD (λq=>?_) λq=>?_
 .exact aQ _ U ⟨by unfold pB;rw[asG Y];rfl,h1.ae⟩
 .exact aQ _ U ⟨by unfold pB;rw[asE Y];rfl,h1.ae⟩
theorem VC(h:bS oI D w A n xs):aK prog 224 #[aB A n c,.func (.func 145) #[] #[]] w (λv w'=>(∃i:Int,v=iv i/\(0<=i↔xs.all pB=false))/\ax w w'):=by
 apply aF func224 Z;apply an;apply aM (λk:Nat=>[(8,iv (k:Int))]) (λk w'=>k<=n/\ax w w'/\xs.all pB=(xs.drop k).all pB) (λk _=>n-k) 0 ⟨U,Yt⟩ ⟨Y,.refl _ _,U⟩ U;rintro G k w' ⟨hk,xw,he⟩;refine cD (λhlt=>?_) λhge=>?_
 .obtain⟨b,o,cs,x,rfl,hx,V,-,hc,J⟩:=(h.ae xw).au (show k<n from Y);rw[V,atv] at he;obtain⟨A1,n1,c1,rfl,O,-⟩:=tl J;have a6:=O.an;refine go ?_;refine dt (KP (x:=x) Y) (λw2 g x2=>?_) λw2 g x2=>?_
  .refine aQ _ U ⟨⟨k,U,?_⟩,xw.trans x2⟩;simp only[atj] at g;rw[he,show pB x=false from g];simp
  .simp only[atb] at g;refine eD (by have:=h.le;omega) ?_;refine next (k+1) ⟨Yn,Yt⟩ ⟨Y,xw.trans x2,?_⟩ Y;rw[he,show pB x=true from g];rfl
 .exact LO
theorem RP{xs:List dz}(h:bS oI D w A n xs):aA 144 #[aB A n c,.func (.func 145) #[] #[]] w (.bool (!xs.all pB)):=by
 refine aF func144 Z<|aJ (VC h) ?_;rintro _ z ⟨⟨i,rfl,hi⟩,u⟩;refine cD (λg=>?_) λg=>?_
 .exact aQ _ U ⟨by rw[hi.1 g];rfl,u⟩
 .refine aQ _ U ⟨?_,u⟩;cases q:xs.all pB with
  |true=>rfl
  |false=>exact absurd (hi.2 q) g
theorem RO.step{e:UD}{f:Int->Option Value}(h:RO e f){x:dz}{A:bZ}{c:Nat}:RO (ID e x) (dZ f x.no (.agg (x.cc A n c).toArray)):=λi=>by
 unfold ID dZ;by_cases q:i=x.no
 .rw[asp q];simp only[asp q];exact⟨x,A,n,c,rfl,rfl,rfl⟩
 .rw[aso q];simp only[aso q];exact h i
set_option maxRecDepth 8000 in
set_option maxHeartbeats 1000000 in
theorem yk{af:aW}{d:aU}(hd:iG D w af d)(h:bS oI D w A n xs):aA 56 #[.agg af.toArray,aB A n c] w (iv (fS d xs)):=by
 have hd0:=hd;have hl:=h.an;have hle:=h.le;obtain⟨A1,n1,c1,A2,n2,c2,A3,n3,c3,A4,n4,c4,A5,n5,c5,A6,n6,c6,rfl,-⟩:=hd.ex;refine aF func56 Z ?_;refine box λb2 w1 h1=>?_;have B2:=h1.aS;refine go ?_;refine bW (ko (hd0.ae h1.ae)) λbg O=>?_;have B2:=B2.ae O;have x01:=h1.ae.trans O;obtain⟨er,her⟩:∃er,er=cH d:=⟨_,U⟩;rw[<-her];refine cN (λq=>?_) λq=>?_
 .exact aQ (iv er) U ⟨by unfold fS;rw[<-her,asp q],x01⟩
 have e0:fS d xs=if 512<xs.length\/xs.all pB=false then 2 else if lM d (λ_=>none) (-1) xs then 0 else 250:=by unfold fS;rw[<-her,aso (by simpa using q)]
 refine an ?_;refine cD (λq1=>?_) λq1=>?_
 .exact aQ (iv 2) U ⟨by rw[e0,asp (.inl Y)],x01⟩
 refine dt (RP (h.ae x01)) (λw1 q2 x1=>?_) λw1 q2 x1=>?_
 .simp only[atj] at q2;exact aQ (iv 2) U ⟨by rw[e0,asp (.inr q2)],x01.trans x1⟩
 simp only[atb] at q2;have e1:fS d xs=if lM d (λ_=>none) (-1) xs then 0 else 250:=by rw[e0,aso (by rw[q2];simp;omega)]
 have B2:=B2.ae x1;have x01:=x01.trans x1;refine qV λg w2 hg a7=>?_;have x2:ax w1 w2:=by rw[a7];exact aj.alloc _ _ _
 have M2:dw fY w2 g (λ_=>none):=by rw[a7,hg];exact dw.new fY w1
 have x02:=x01.trans x2;have B2:=B2.ae x2;have bk:=x01.size;have bt:b2<g:=by have:=h1.au;have:=h1.size;have:=O.size;have:=x1.size;omega
 refine an ?_;refine aM (λk:Nat=>[(23,iv (k:Int))]) (λk u=>k<=n/\aj (λb=>b≠g) w2 u/\∃e f last,dw fY u g f/\RO e f/\((k=0->last= -1)/\∀j,k=j+1->∃y,xs[j]? =some y/\last=y.no)/\lM d (λ_=>none) (-1) xs=lM d e last (xs.drop k)) (λk _=>n-k) 0 ⟨U,Yt⟩ ⟨Y,.refl _ _,λ_=>none,λ_=>none,-1,M2,λ_=>rfl,⟨λ_=>rfl,λj hj=>Y⟩,U⟩ U ?_;rintro G k u ⟨hk,xu,e,f,last,M,hR,J,hi⟩;have xw:=x02.ag xu λb hb _=>Y;refine cD (λhlt=>?_) λhge=>?_
 .obtain⟨b,o,cs,x,rfl,hxk,av,-,hc,a8⟩:=(h.ae xw).au (show k<n from Y);rw[av] at hi;obtain⟨A7,n7,c7,rfl,aa,-⟩:=tl a8;refine Py ?_;intro b7 u1 a1 u2 B7 k2 z2;have e7:=a1.au;have xu2:=a1.ae.ag k2 λb hb _ e=>Y;have M2:=M.ah xu2 Yt;have bw:=(B2.ah xu Y).ae xu2;have bad:(last<x.no->pA d e x=false)->iv 250=iv (fS d xs):=λg=>by
   rw[e1,hi];have aq:lM d e last (x::xs.drop (k+1))=(decide (last<x.no)&&(pA d e x&&lM d (ID e x) x.no (xs.drop (k+1)))):=U;rw[aq];by_cases q:last<x.no
   .rw[g q];simp
   .rw[asG q];rfl
  refine bR (oP [17] [] [0,1,2,3,4,5,6,7,8,9,10,11,12,13,14,15,16,17,18,19]) [] (λz=>ax u2 z) mx Z (.refl _ _) ?_;refine cD (λak=>?_) λak=>?_
  .obtain⟨k1,hk1⟩:∃j,k=j+1:=⟨k-1,Y⟩;obtain⟨y,hy,bo⟩:=J.2 k1 hk1;obtain⟨bp,op,br,y',hA,a6,-,-,hcp,V⟩:=((h.ae xw).ae xu2).au (k:=k1) Y;obtain rfl:y=y':=by rw[hy] at a6;injection a6
   injection hA with hA;injection hA with b0 ay;subst b0;subst ay;obtain⟨A8,n8,c8,rfl,-⟩:=tl V;refine go ?_;refine adJ ?_;refine bC ?_;refine fu _ (hcp 0 _ U) Yt (.refl _ _) ?_;refine cD (λhge=>?_) λbe=>?_
   .refine go ?_;exact aQ _ U ⟨bad λh=>Y,xw.trans xu2⟩
   refine go ?_;refine dt (IK (x:=x) (hd0.ae (xw.trans xu2)) (aa.ae xu2) M2 hR) (λu3 q x3=>?_) λu3 q x3=>?_;rotate_left
   .exact YX
   refine Zo ?_;intro B7 u4 M4 k4 s4 x04;refine go ?_;refine next (k+1) ⟨Yn,Yt⟩ ⟨Y,x04,ID e x,_,x.no,M4,hR.step,⟨λh=>Y,λj hj=>⟨x,by rw[show j=k from Y];exact hxk,U⟩⟩,?_⟩ Y;exact aoq
  .have bq:=J.1 Y;refine go<|dt (IK (x:=x) (hd0.ae (xw.trans xu2)) (aa.ae xu2) M2 hR) (λu3 q x3=>?_) λu3 q x3=>?_;rotate_left
   .exact YX
   refine Zo ?_;intro B7 u4 M4 k4 s4 x04;refine eD (n:=(k:Int)+1) Y<|next (k+1) ⟨Yn,Yt⟩ ⟨Y,x04,ID e x,_,x.no,M4,hR.step,⟨λh=>Y,λj hj=>⟨x,by rw[show j=k from Y];exact hxk,U⟩⟩,?_⟩ Y;exact aoq
 .refine aQ _ U ⟨?_,xw⟩;rw[e1,hi,as8 Y];rfl
end
theorem KT{P:Program}{t e:TypeId}{sz:Nat}[h:cu P t e sz]{xo yo:Operand}{c:Nat}{K:Value->Prop}(k1:A=none->K (.bool true))(k2:A≠none->K (.bool false)):AF P .eql t xo yo (aB A n c) (aY) K:=by
 exact aok
theorem jH.cap{c sz:Nat}{e:TypeId}{xs:aW}(h:jH w (aB (aL g) n c) e sz n xs):c<=maxLen:=by
 rcases h.2 with⟨q,-⟩|⟨J,z,arr,A,-,-,-,u,-⟩
 .cases q
 .exact Yg
theorem mN.abQ{L:List MapEntry}{c:Nat}(h:(L.map (·.born)).Nodup)(O:∀e∈L,e.born<c):mN L c:=λi e he=>by
 refine⟨O e (asq he),λj V u A=>?_⟩;obtain⟨hi,M⟩:=asr.1 he;obtain⟨z,J⟩:=asr.1 u;rw[atw,atN,ato] at h;rcases awn i j with q|q|q
 .exact absurd (by rw[M,J];exact A.symm) (h i j hi z q)
 .exact q.symm
 .exact absurd (by rw[M,J];exact A) (h j i z hi q)
theorem y8{k:Value}:∀{L:List MapEntry} {j:Nat} {e:MapEntry},(L.map (·.key)).Nodup->L[j]? =some e->e.key=k->∀v,gN v (L.eraseIdx j)=if k=v then none else gN v L
 |[],j,e,_,h,_,_=>by simp at h
 |a::L,0,e,u,h,hk,v=>by
  simp at h;subst h
  show gN v L=_
  rw[asQ,auO] at u
  rw[eK]
  by_cases q:k=v
  .rw[asp q]
   cases A:gN v L with
   |none=>rfl
   |some x=>
    obtain⟨y,z,h1,-⟩:=BW A
    exact absurd (asS.2 ⟨y,z,by rw[h1,hk,q]⟩) u.1
  .rw[aso q,aso (by rw[hk];exact q)]
 |a::L,j+1,e,u,h,hk,v=>by
  rw[asQ,auO] at u
  have h:L[j]? =some e:=by simpa using h
  show gN v (a::L.eraseIdx j)=_
  rw[eK,eK,y8 u.2 h hk v]
  by_cases q:a.key=v
  .rw[asp q,asp q,aso]
   intro J
   exact u.1 (asS.2 ⟨e,asq h,by rw[hk,J,q]⟩)
  .rw[aso q,aso q]
noncomputable def OB {κ:Type}(f:κ->Option Value)(a:κ):κ->Option Value:=λb=>if b=a then none else f b
section
variable {P:Program} {κ:Type} {kv:κ->Value} {X:XK}
theorem XJ{t k e:TypeId}[hm:jx P t k e][hk:rD P k kv]{g:Nat}{f:κ->Option Value}{ty:TypeId}{kt:TypeId}{cst:Array Bool}(a:κ){w:World}{K:VK}(h:fL kv w g f)(kk:∀w',fL kv w' g (OB f a)->aj (λb=>b≠g) w w'->w'.heap.size=w.heap.size->K (.tuple #[]) w'):DE P .delete #[t,kt] ty cst #[.map (some g),kv a] K X w:=by
 rw[nZ];refine mB.x λw0 hw=>?_;subst hw;have h1:=jI hm.h;obtain⟨L,c,hE,hU,hf⟩:=h;have hb:w0.heap[g]? =some (.map L.toArray c):=hE.au;have hfn:=hk.Xp a L w0 hE.keys;cases hp:gz (kv a) L 0 with
 |none=>
  rw[hp] at hfn;have J:(builtin .delete #[t,kt] ty cst #[.map (some g),kv a]).run P w0=.ok (.value (.tuple #[])) {w0 with heap:=w0.heap.setIfInBounds g (.map L.toArray c)}:=by
   refine Zr ?_;intro hbc;have:(Builtin.delete_ #[t,kt] ty #[.map (some g),kv a]).run P w0=.ok (.tuple #[]) {w0 with heap:=w0.heap.setIfInBounds g (.map L.toArray c)}:=by simp[Builtin.delete_,asX h1,atQ hb,hk.UA,hfn,aub _ hb]
   rw[this];rfl
  rw[J];obtain⟨k1,k2⟩:=heap_set (o:=.map L.toArray c) hb;refine kk (z {w0 with heap:=w0.heap.setIfInBounds g _}) ⟨L,c,⟨k2,hE.keys,hE.born⟩,hU,λb=>?_⟩ k1 (by simp[z]);unfold OB;by_cases hab:b=a
  .subst hab;rw[asp U];exact nB.2 hp
  .rw[aso hab,hf]
 |some p=>
  obtain⟨n,x⟩:=p;rw[hp] at hfn;obtain⟨j,y,hn,hj,hy,hyx,O⟩:=nA hp;have hn:n=j:=Y;subst hn;have V:=(asr.1 hj).1;have J:(builtin .delete #[t,kt] ty cst #[.map (some g),kv a]).run P w0=.ok (.value (.tuple #[])) {w0 with heap:=w0.heap.setIfInBounds g (.map (L.eraseIdx n).toArray c)}:=by
   refine Zr ?_;intro hbc;have:(Builtin.delete_ #[t,kt] ty #[.map (some g),kv a]).run P w0=.ok (.tuple #[]) {w0 with heap:=w0.heap.setIfInBounds g (.map (L.eraseIdx n).toArray c)}:=by simp[Builtin.delete_,asX h1,atQ hb,hk.UA,hfn,aub _ hb,Array.eraseIdxIfInBounds,V]
   rw[this];rfl
  rw[J];obtain⟨k1,k2⟩:=heap_set (o:=.map (L.eraseIdx n).toArray c) hb;have hsub:=List.eraseIdx_sublist L n;refine kk (z {w0 with heap:=w0.heap.setIfInBounds g _}) ⟨L.eraseIdx n,c,⟨k2,λe he=>hE.keys e (hsub.mem he),mN.abQ ((hsub.map (·.born)).nodup hE.born.nodup) λe he=>?_⟩,(hsub.map (·.key)).nodup hU,λb=>?_⟩ k1 (by simp[z])
  .obtain⟨i,hi⟩:=ath (hsub.mem he);exact(hE.born i e hi).1
  .rw[y8 hU hj hy (kv b)];unfold OB;by_cases hab:b=a
   .subst hab;rw[asp U,asp U]
   .rw[aso hab,aso λe=>hab (hk.inj _ _ e).symm,hf]
end
theorem am6:∃f0 f1,Ig prog 223 3 f0 f1:=⟨_,_,⟨Tryz.underlying223,rfl,rfl,rfl,rfl,by decide,by decide,by kernel_rfl,λ_ _ _ _=>by kernel_rfl⟩⟩
instance aqJ:rD prog 223 dE:=by
 obtain⟨_,_,h⟩:=am6;exact h.law
structure qY where
 d:dz
 A:bZ
 n:Nat
 c:Nat
abbrev eY(z:qY):aW:=z.d.cc z.A z.n z.c
def KW(D:Nat->Prop)(w:World)(z:qY):Prop:=bS DR D w z.A z.n z.d.parts/\z.n<=z.c
theorem EX{D:Nat->Prop}{w:World}:∀{xs:List dz} {cs:aW},dW oI D w xs cs->∃zs:List qY,zs.map qY.d=xs/\cs=zs.flatMap eY/\∀z∈zs,KW D w z
 |[],_,h=>by subst h;exact⟨[],rfl,rfl,λz u=>(by cases u)⟩
 |x::xs,_,⟨c,r,h,h1,M⟩=>by
  obtain⟨A,n,c',rfl,hs,J⟩:=tl h1
  obtain⟨zs,W,V,O⟩:=EX M
  subst h
  refine⟨⟨x,A,n,c'⟩::zs,by rw[asQ,W],by rw[ata,V],λz u=>?_⟩
  rcases asM.1 u with rfl|u
  .exact⟨hs,J⟩
  .exact O z u
theorem Src.OC{m sz:Nat}{news:aW}(h:Src w A m sz news)(k:ax w u):Src u A m sz news:=⟨h.1,λhm=>let⟨b,o,e,z⟩:=h.2 hm;⟨b,o,e,z.ah k Yt⟩⟩
theorem bS.am7{D:Nat->Prop}(h:bS oI D w A n xs):∃zs:List qY,zs.map qY.d=xs/\Src w A n 9 (zs.flatMap eY)/\∀z∈zs,KW D w z:=by
 rcases atD n with J|J
 .subst J;have:=asL h.an;subst this;exact⟨[],U,⟨by simp,λh=>Y⟩,λz M=>(by cases M)⟩
 .obtain⟨b,o,cs,x,rfl,_⟩:=h.au (k:=0) J;obtain⟨cs,u,O⟩:=h.cells;obtain⟨zs,X,W,V⟩:=EX u;subst W;exact⟨zs,X,⟨by have:=u.an;have:=h.an;show _=n*9;rw[u.an,h.an];rfl,λ_=>⟨b,o,U,O⟩⟩,V⟩
theorem IL:∀{zs:List qY},((zs.flatMap eY).all λu=>u.oneCell')=true
 |[]=>rfl
 |z::zs=>by rw[ata,avZ,IL];rfl
section
variable {D:Nat->Prop} {w:World}
theorem OD{c:Nat}{zs:List qY}(hs:Src w A n 9 (zs.flatMap eY))(hn:n<=1000000):aK prog 197 #[aB A n c] w (λv w'=>∃A' c',v=aB A' n c'/\bu w w' A' n c' 87 9 (zs.flatMap eY)):=by
 refine aF func197 Z<|KT (λhA=>?_) λhA=>?_
 .subst hA;have h0:n=0:=adA
  subst h0;have hx:zs.flatMap eY=[]:=asL (by have:=hs.1;omega);exact adC
 .refine lit [] λg w1 h1=>?_;have o1:bu w w1 (aL g) 0 0 87 9 []:=bu.lit (.refl _ _) h1 U;refine iI o1 (hs.OC h1.ae) Y (λA' c' w2 o2 k2 J=>?_) (h1:=IL);exact adw
end
section
variable {D:Nat->Prop} {w:World} {di:qY->Bool}
theorem abR{ms:List qY}{c:Nat}{b1 b2 b3:Nat}(h:bu w0 w A n c 87 9 (ms.flatMap eY))(hle:n<=1000000)(hp:∀(x:qY) (u:World),ax w u->aA 198 #[.agg (eY x).toArray,ptr b1,ptr b2,ptr b3] u (.bool (!di x))):aK prog 224 #[aB A n c,.func (.func 198) #[] #[ptr b1,ptr b2,ptr b3]] w (λv w'=>((v=iv (-1)/\ms.filter di=ms)\/∃k:Nat,v=iv (k:Int)/\k<n/\(ms.take (k+1)).filter di=ms.take k)/\ax w w'):=by
 have hK:∀x,(eY x).length=9:=λ_=>rfl;have J:=h.own.an;rw[bz hK] at J;apply aF func224 Z;exact an5
theorem abS{ms:List qY}{c:Nat}{b1 b2 b3:Nat}(h:bu w0 w A n c 87 9 (ms.flatMap eY))(hle:n<=1000000)(hp:∀(x:qY) (u:World),ax w u->aA 198 #[.agg (eY x).toArray,ptr b1,ptr b2,ptr b3] u (.bool (!di x)))(J:∀(x:qY) (u:World),ax w0 u->aA 198 #[.agg (eY x).toArray,ptr b1,ptr b2,ptr b3] u (.bool (!di x))):aK prog 196 #[aB A n c,.func (.func 198) #[] #[ptr b1,ptr b2,ptr b3]] w (λv w'=>∃A' n' c',v=aB A' n' c'/\bu w0 w' A' n' c' 87 9 ((ms.filter di).flatMap eY)/\n'<=n/\aj (λb=>A≠aL b) w w'/\(A'=A\/A'=none)):=by
 have hK:∀x,(eY x).length=9:=λ_=>rfl;have O:=h.own.an;rw[bz hK] at O;apply aF func196 Z;apply aJ (abR (c:=c) h hle hp);rintro _ w1 ⟨⟨rfl,hno⟩|⟨k,rfl,hkn,hk⟩,x1⟩
 .refine adL ?_;rw[hno];exact h.ag x1
 refine cE (λe=>Y) λ_=>?_;refine go ?_;rcases h.form with⟨_,h0,_⟩|⟨g,rfl,hg0,hgl,hnc⟩
 .omega
 obtain⟨rest,hb0,hbl,-⟩:=jH.aS h.own;refine HC (λ(j i:Nat) (_:Unit)=>[(6,iv (j:Int)),(5,iv (i:Int))]) (λj i _ w'=>i<j/\j<=n/\aj (λb=>b≠g) w1 w'/\∃cur:List qY,cur.length=n/\aP w' g 87 (cur.flatMap eY++rest)/\cur.take i=(ms.take j).filter di/\cur.drop j=ms.drop j) (λj _ _ _=>n-j) (k+1) k () ⟨Yn,U,Yt⟩ ⟨Y,Y,.refl _ _,ms,Y,hb0.ae x1,hk.symm,U⟩ U ?_;rintro G j i _ w2 ⟨a6,V,k2,cur,hcl,hb2,hc1,hc2⟩;have xw0:=(h.ae.trans x1).ag k2 λb hb _ e=>Y;refine an ?_;refine cD (λhlt=>?_) λhge=>?_
 .refine Xa ?_;intro hlt m hm hcm htk;refine fj _ (cZ hK hb2 hcm) U ?_;refine ao5 ?_;intro t v1' h1'' w3 tb s2 zs t1 hgl2 x23 htg;refine go ?_;refine dt (J m w3 (xw0.trans x23)) (λw4 q x4=>?_) λw4 q x4=>?_
  .exact g_9
  .simp only[atb] at q;refine fj (eY m) (.aS (tb.ae x4)) U ?_;refine go ?_;have hcsl:(cur.flatMap eY++rest).length=c*9:=NA
   refine jR ((hb2.ae x23).ae x4) U (by rw[hcsl];show _+9<=_;omega) Ys λw5 b5 s5 zs5=>?_;refine go ?_;refine yN (j+1) (i+1) () ⟨Yn,Yn,Yt⟩ ⟨Y,Y,((k2.ae x23).ae x4).trans s5,cur.set i m,?_,?_,?_,?_⟩ Y
   .rw[asU];exact hcl
   .rw[<-mj hK Y];have:0+i*9=i*9:=Y;rw[this] at b5;exact b5
   .exact Y6
   .exact Ui
 .have hjn':j=n:=Y;have hcsl:(cur.flatMap eY++rest).length=c*9:=NA
  have hfin:cur.take i=ms.filter di:=Yg;refine F5 i n U rfl Y Y Y<|clr hb2 Y (by rw[hcsl];omega) λw3 cs' hb3 ht hl k3=>?_;have hfl:(ms.filter di).length=i:=by rw[<-hfin,asF];omega
  have ht:cs'.take (i*9)=(ms.filter di).flatMap eY:=by
   have e1:cs'.take (i*9)=(cur.flatMap eY++rest).take (i*9):=by rw[show i*9=0+i*9 from Y];exact ht
   rw[e1,ya hK _ _ _ Y,hfin]
  have hb4:aP w3 g 87 ((ms.filter di).flatMap eY++cs'.drop (i*9)):=by rw[<-ht,atk];exact hb3
  have xf:=xw0.ag k3 λb hb _ e=>Y;refine F5 0 i U rfl Y Y Y<|aQ (aB (some (ad g (0+0*9))) (i-0) (c-0)) U ⟨aL g,i,c,by rw[show 0+0*9=0 from Y,aup,aup],⟨jH.iH hb4 (by rw[bz hK,hfl]) (by rw[<-ht,atk,hl,hcsl]) Y h.own.cap,xf,λg' hg'=>by injection hg' with hg';injection hg' with hg';omega⟩,Y,((ax.any x1).trans (k2.cU λb _ h e=>h (by rw[e]))).trans (k3.cU λb _ h e=>h (by rw[e])),.inl U⟩
end
def DB(x y:qY):Bool:=decide (x.d.au<y.d.au)
section
variable {α β:Type} {lt:α->α->Bool} {lt':β->β->Bool} {f:β->α}
theorem IM(h:∀x y,lt (f x) (f y)=lt' x y)(x:β)(p:List β):∀j,(mI lt' x p j).map f=mI lt (f x) (p.map f) j
 |0=>rfl
 |j+1=>by
  unfold mI
  rw[as6]
  cases p[j]? with
  |none=>simp
  |some y=>
   simp only[awz,h]
   split
   .exact IM h x p j
   .simp
theorem VD(h:∀x y,lt (f x) (f y)=lt' x y)(l:List β):(rV lt' l).map f=rV lt (l.map f):=by
 unfold rV;have:∀(l p:List β),(l.foldl (λp x=>mI lt' x p p.length) p).map f=(l.map f).foldl (λp x=>mI lt x p p.length) (p.map f):=λl=>by
  induction l with
  |nil=>exactλp=>rfl
  |cons a l u=>
   intro p;rw[aul,asQ,aul,u,IM h,asz]
 exact this l []
end
section
variable {w:World}
theorem KX{a b:qY}:aA 200 #[.agg (eY a).toArray,.agg (eY b).toArray] w (iv (cx a.d.au b.d.au)):=by
 refine aF func200 Z<|box λg O h1=>box λg2 M u=>?_;have W:=h1.aS.ae u.ae;have V:=u.aS;refine go<|aJ (uY a.d.au b.d.au) ?_;rintro _ J ⟨rfl,rfl⟩;exact aQ _ U ⟨U,h1.ae.trans u.ae⟩
theorem KY{l:List dz}{z:qY}{b1 b2 b3 g:Nat}{aN aH:Int}{f:Int->Option Value}(h1:aP w b1 3 [iv aN])(h2:aP w b2 3 [iv aH])(h3:aP w b3 300 [.map (some g)])(M:dw fY w g f)(hf:∀i,(f i).getD (.bool false)=.bool (wE l aN i)):aA 198 #[.agg (eY z).toArray,ptr b1,ptr b2,ptr b3] w (.bool (!GG l aH aN z.d)):=by
 refine aF func198 Z<|box λb4 w1 a1=>?_;have B4:=a1.aS;have h1:=h1.ae a1.ae;have h2:=h2.ae a1.ae;have h3:=h3.ae a1.ae;have M:=M.ah a1.ae Yt;refine go<|cE (λq1=>?_) λq1=>?_
 .exact TW
 refine go<|cD (λq2=>?_) λq2=>?_
 .exact TW
 refine go<|cD (λq3=>?_) λq3=>?_
 .exact TW
 refine go ?_;have e0:GG l aH aN z.d= !wE l aN z.d.no:=by unfold GG;rw[asE Y];rfl
 cases hv:wE l aN z.d.no with
 |true=>
  refine dh (kv:=fY) z.d.no (.bool true) (λu hu=>Yg)<|aQ _ U ⟨by rw[e0,hv];rfl,a1.ae⟩
 |false=>
  refine dh (kv:=fY) z.d.no (.bool false) (λu hu=>Yg)<|aQ _ U ⟨by rw[e0,hv];rfl,a1.ae⟩
end
section
variable {w:World}
theorem abT{ms:List qY}{rest:aW}{g n c:Nat}(hb0:aP w g 87 (ms.flatMap eY++rest))(hn:n=ms.length)(hle:n<=1000000):aK prog 350 #[aB (aL g) n c,iv 0,iv n,.func (.func 200) #[] #[]] w (λv w'=>v=.tuple #[]/\aP w' g 87 ((rV DB ms).flatMap eY++rest)/\aj (λb=>b≠g) w w'):=by
 have hK:∀x:qY,(eY x).length=9:=λ_=>rfl;refine aF func350 Z ?_;refine go ?_;refine aM (λi:Nat=>[(8,iv ((i:Int)+1))]) (λi u=>(i+1<=n\/i=0)/\aj (λb=>b≠g) w u/\aP u g 87 ((rV DB (ms.take (i+1))++ms.drop (i+1)).flatMap eY++rest)) (λi _=>n-i) 0 ⟨U,Yt⟩ ⟨.inr U,.refl _ _,by
  cases ms with
  |nil=>exact hb0
  |cons x l=>exact hb0⟩ U ?_
 rintro G i u ⟨hi,ku,hb⟩;have hl2:(rV DB (ms.take (i+1))++ms.drop (i+1)).length=n:=by rw[asu,oF,asF,atM];omega
 refine cD (λhlt=>?_) λhge=>?_
 .have hlt:i+1<n:=Y;obtain⟨x,hx⟩:∃x,ms[i+1]? =some x:=⟨ms[i+1]'Y,asw Y⟩;have hxl:=(asr.1 hx).1;obtain⟨p,hp⟩:∃p,p=rV DB (ms.take (i+1)):=⟨_,U⟩;refine apb ?_;intro hpl hdr hrl;have V:rV DB (ms.take (i+1+1))=mI DB x p (i+1):=by rw[Ip hx,<-hp,hpl]
  rw[<-hp,hdr] at hb;refine aM (λj:Nat=>[(9,iv (j:Int))]) (λj u1=>j<=i+1/\aj (λb=>b≠g) u u1/\mI DB x p (i+1)=mI DB x p j/\aP u1 g 87 (((p.take j++x::p.drop j)++ms.drop (i+2)).flatMap eY++rest)) (λj _=>j) (i+1) ⟨Yn,Yt⟩ ⟨asN _,.refl _ _,U,by rw[asx Y,as8 Y,as5];exact hb⟩ U ?_
  rintro G2 j u1 ⟨hj,k1,O,hb1⟩;refine aoT ?_;intro hcl hxj;have fin:∀(u3:World),mI DB x p j=p.take j++x::p.drop j->ax u1 u3->aj (λb=>b≠g) w u3/\aP u3 g 87 ((rV DB (ms.take (i+1+1))++ms.drop (i+1+1)).flatMap eY++rest):=λu3 he x3=>by refine⟨(ku.trans k1).ae x3,?_⟩;rw[V,O,he];exact hb1.ae x3
  refine cD (λa7=>?_) λa7=>?_
  .obtain⟨j',rfl⟩:∃j',j=j'+1:=⟨j-1,Y⟩;refine aoY ?_;intro y hy hyj;refine bW KX λu2 x2=>?_;refine go ?_;have hlt2:DB x y=decide (x.d.au<y.d.au):=U;have hins2:mI DB x p (j'+1)=if DB x y then mI DB x p j' else p.take (j'+1)++x::p.drop (j'+1):=by rw[mI,hy]
   obtain⟨cv,J⟩:∃cv,cv=cx x.d.au y.d.au:=⟨_,U⟩;rw[<-J];refine cD (λq=>?_) λq=>?_
   .have hyx:x.d.au<y.d.au:=by
     unfold cx at J;split at J
     .assumption
     .split at J<;>omega
    have hb2:=hb1.ae x2;have a6:((((p.take (j'+1)++x::p.drop (j'+1))++ms.drop (i+2)).flatMap eY)++rest).length=n*9+rest.length:=by rw[asu,bz hK,hcl]
    refine aoU ?_;refine jR hb2 U (by rw[a6];show _+9<=_;omega) Ys λu3 b3 k3 s3=>?_;have b3:aP u3 g 87 ((((p.take (j'+1)++x::p.drop (j'+1))++ms.drop (i+2)).set (j'+1) y).flatMap eY++rest):=by rw[<-mj hK (by rw[hcl];omega)];have:0+(j'+1)*9=(j'+1)*9:=Y;rw[this] at b3;exact b3
    refine go ?_;refine idx j' Y Y ?_;refine jR b3 U (by rw[asu,bz hK,asU,hcl];show _+9<=_;omega) Ys λu4 b4 k4 s4=>?_;have b4:aP u4 g 87 (((p.take j'++x::p.drop j')++ms.drop (i+2)).flatMap eY++rest):=by rw[<-EL (x:=x) (r:=ms.drop (i+2)) hy,<-mj hK (by rw[asU,hcl];omega)];have:0+j'*9=j'*9:=Y;rw[this] at b4;exact b4
    refine Zt ?_;rw[O,hins2,hlt2,asE hyx];rfl
   .have hyx:¬x.d.au<y.d.au:=λh=>by unfold cx at J;rw[asp h] at J;omega
    exact Zd
  .exact Y7
 .exact Yk
theorem abU{ms:List qY}{c:Nat}(hb0:aP w g 87 (ms.flatMap eY++rest))(hn:n=ms.length)(hle:n<20):aK prog 273 #[aB (aL g) n c,iv n,.func (.func 200) #[] #[]] w (λv w'=>v=.tuple #[]/\aP w' g 87 ((rV DB ms).flatMap eY++rest)/\aj (λb=>b≠g) w w'):=by
 refine aF func273 Z<|aM (λ_:Unit=>[(7,iv 0),(8,iv 20)]) (λ_ u=>w=u) (λ_ _=>0) () ⟨U,U,Yt⟩ U rfl ?_;rintro G _ u rfl;refine cD (λq=>Y) λ_=>aJ (abT hb0 hn Y) ?_;exact aoA
theorem abV{ms:List qY}{c:Nat}(u:aP w g 87 (ms.flatMap eY++rest))(J:n=ms.length)(hle:n<20):aK prog 199 #[aB (aL g) n c,.func (.func 200) #[] #[]] w (λv z=>v=.tuple #[]/\aP z g 87 ((rV DB ms).flatMap eY++rest)/\aj (λb=>b≠g) w z):=by
 refine aF func199 Z<|an<|aJ (abU u J hle) ?_;rintro _ O ⟨rfl,M,hk⟩;exact ret ⟨U,M,hk⟩
end
section
variable {D D':Nat->Prop} {w:World} {A:Option Addr} {n c:Nat}
theorem MG:aK prog 201 #[aB A n c] w (λv u=>∃b,v=.func (.func 274) #[] #[ptr b]/\ax w u/\aP u b 32 [aB A n c]/\w.heap.size<=b):=by
 refine aF func201 Z<|box λz J h1=>?_;have M:=h1.au;exact aQ _ U ⟨z,U,h1.ae,h1.aS,Y⟩
theorem RQ{l:Nat}{zs:List qY}(J:Nat->World->Prop)(hJ:∀k w M,J k w->ax w M->J k M)(O:∀(k:Nat) z u,zs[k]? =some z->J k u->iQ prog l [.agg (eY z).toArray].toArray (λv M=>v=.bool true/\J (k+1) M/\aj D u M) u)(aq:∀g,A=aL g->D g)(hb:aP w b 32 [aB A n c])(V:bu w w A n c 87 9 (zs.flatMap eY)\/∃w0,bu w0 w A n c 87 9 (zs.flatMap eY))(h0:J 0 w):aK prog 274 #[.func (.yield l) #[] #[],ptr b] w (λ_ M=>J zs.length M):=by
 obtain⟨w0,V⟩:∃w0,bu w0 w A n c 87 9 (zs.flatMap eY):=by
  rcases V with h|h
  .exact⟨w,h⟩
  .exact h
 have hK:∀x,(eY x).length=9:=λ_=>rfl;have aa:=V.own.an;rw[bz hK] at aa;have a6:n<=maxLen:=by
  rcases V.form with⟨_,h0,_⟩|⟨g,rfl,_,_,X⟩
  .rw[h0];exact atc _
  .exact atI X V.own.cap
 have a6:n<=9223372036854775807:=atI a6 Yd;apply aF func274 Z;refine go ?_;rcases V.form with⟨hA,a8,ak⟩|⟨g,rfl,ay,av,X⟩
 .subst hA;subst a8;subst ak;refine aM (λk:Nat=>[(7,iv (k:Int))]) (λk u=>k=0/\J 0 u) (λk _=>0) 0 ⟨U,Yt⟩ ⟨U,h0⟩ U ?_;rintro G k u ⟨rfl,hj⟩;refine cD (λab=>Y) λaf=>?_;have:zs=[]:=asL Y;subst this;exact mD hj
 obtain⟨rest,ao,-,-⟩:=jH.aS V.own;refine aM (λk:Nat=>[(7,iv (k:Int))]) (λk u=>k<=n/\aP u g 87 (zs.flatMap eY++rest)/\J k u) (λk _=>n-k) 0 ⟨U,Yt⟩ ⟨Y,ao,h0⟩ U ?_;rintro G k u ⟨hk,a7,hj⟩;refine cD (λab=>?_) λaf=>?_
 .obtain⟨z,hz⟩:=gx zs k;refine go ?_;refine fj _ (cZ hK a7 hz) U ?_;refine alloc λb4 u1 a1=>?_;refine fg a1.aS λu2 B4 k2 z2=>?_;have e4:=a1.au;have W:=a1.ae.ag k2 λb hb _ e=>Y;refine go ?_;refine eA (O k z u2 hz (hJ _ _ _ hj W)) ?_;rintro _ u5 ⟨rfl,j5,k5⟩;refine go ?_;exact next (k+1) ⟨Yn,Yt⟩ ⟨Y,(a7.ae W).ah k5 (aq g U),j5⟩ Y
 .obtain rfl:k=zs.length:=Y;exact mD hj
end
section
variable {D:Nat->Prop} {w:World} {A:Option Addr} {n c:Nat}
theorem VE:aK prog 350 #[aY,iv 0,iv 0,.func (.func 200) #[] #[]] w (λv w'=>v=.tuple #[]/\w'=w):=by
 refine aF func350 Z<|go<|aM (λ_:Unit=>[(8,iv 1)]) (λ_ u=>w=u) (λ_ _=>0) () ⟨U,Yt⟩ U rfl ?_;exact LQ
theorem VF:aK prog 273 #[aY,iv 0,.func (.func 200) #[] #[]] w (λv J=>v=.tuple #[]/\J=w):=by
 refine aF func273 Z<|aM (λ_:Unit=>[(7,iv 0),(8,iv 20)]) (λ_ u=>w=u) (λ_ _=>0) () ⟨U,U,Yt⟩ U rfl ?_;rintro G _ u rfl;refine cD (λq=>Y) λ_=>aJ VE ?_;rintro _ z ⟨rfl,rfl⟩;refine aM (λ_:Unit=>[(6,iv 20)]) (λ_ u=>z=u) (λ_ _=>0) () ⟨U,Yt⟩ U rfl ?_;rintro M _ u rfl;refine cD (λq=>Y) λ_=>ret ⟨U,U⟩
theorem VG:aK prog 199 #[aY,.func (.func 200) #[] #[]] w (λv u=>v=.tuple #[]/\u=w):=by
 refine aF func199 Z<|an<|aJ VF ?_;rintro _ z ⟨rfl,rfl⟩;exact ret ⟨U,U⟩
theorem CB{l:List dz}{x:dz}{aN i:Int}:wE (l++[x]) aN i=(wE l aN i ||decide (x.kind=4/\x.aN<=aN/\x.fI=i)):=by
 unfold wE;rw[awD,avG,List.any_nil,Bool.or_false]
set_option maxRecDepth 4000 in
theorem OE{aH aN:Int}(h:bS oI D w A n xs)(hn:n<20):aK prog 100 #[aB A n c,iv aH,iv aN] w (λv w'=>∃(b:Nat) (A':bZ) (n' c':Nat) (zs:List qY),v=.func (.func 274) #[] #[ptr b]/\ax w w'/\w.heap.size<=b/\aP w' b 32 [aB A' n' c']/\bu w w' A' n' c' 87 9 (zs.flatMap eY)/\zs.map qY.d=Cu xs aH aN/\∀z∈zs,KW D w z):=by
 have hl:=h.an;have hle:=h.le;obtain⟨zs,ab,aE,ay⟩:=h.am7;have bk:zs.length=n:=by rw[<-hl,<-ab,asz]
 apply aF func100 Z;refine box λb4 w1 h1=>?_;refine box λb5 w2 h2=>?_;refine qV λg w3 hg af=>?_;have x3:ax w2 w3:=by rw[af];exact aj.alloc _ _ _
 have M3:dw fY w3 g (λ_=>none):=by rw[af,hg];exact dw.new fY w2
 refine alloc λb7 w4 h4=>?_;refine st1 h4.aS U λw5 B7 k5=>?_;have e1:=h1.au;have e2:=h2.au;have e4:=h4.au;have s1:=h1.size;have s2:=h2.size;have s3:=x3.size;have lg:=M3.lt;have a6:=(x3.trans h4.ae).ag k5 λb hb _ e=>Y;have av:=(h1.ae.trans h2.ae).trans a6;have B4:=h1.aS.ae (h2.ae.trans a6);have B5:=h2.aS.ae a6;have M5:=(M3.ah h4.ae Yt).ah k5 Y;apply an;apply aM (λk:Nat=>[(13,iv (k:Int))]) (λk u=>k<=n/\aj (λb=>b≠g) w5 u/\∃f:Int->Option Value,dw fY u g f/\∀i,(f i).getD (.bool false)=.bool (wE (xs.take k) aN i)) (λk _=>n-k) 0 ⟨U,Yt⟩ ⟨Y,.refl _ _,_,M5,λi=>rfl⟩ U;rintro G k u ⟨hk,ku,f,M,hf⟩;have xu:=av.ag ku λb hb _ e=>Y;refine cD (λbo=>?_) λbq=>?_
 .obtain⟨b,o,cs,x,rfl,hx,-,-,hc,ao⟩:=(h.ae xu).au (show k<n from Y);obtain⟨A7,n7,c7,rfl,-⟩:=tl ao;have ak:xs.take (k+1)=xs.take k++[x]:=by rw[asD,hx];rfl
  refine go ?_;refine alloc λb9 u1 a1=>?_;refine fg a1.aS λu2 B9 k2 z2=>?_;have e9:=a1.au;have J:=a1.ae.ag k2 λb hb _ e=>Y;have a7:=ku.trans (ax.any (D:=λb=>b≠g) J);have M2:=M.ah J Yt;have same:(x.kind≠4\/aN<x.aN)->∀i,(f i).getD (.bool false)=.bool (wE (xs.take (k+1)) aN i):=λq i=>by rw[hf,ak,CB,asG Y,Bool.or_false]
  refine go ?_;refine cE (λq1=>?_) λq1=>?_;rotate_left
  .refine go ?_;exact next (k+1) ⟨Yn,Yt⟩ ⟨Y,a7,f,M2,same (.inl q1)⟩ Y
  refine go ?_;refine ld _ (((B5.ah ku Y).ae J).ai U) ?_;refine cD (λq2=>?_) λq2=>?_;rotate_left
  .refine go ?_;exact next (k+1) ⟨Yn,Yt⟩ ⟨Y,a7,f,M2,same (.inr Y)⟩ Y
  refine ld _ (((B7.ah ku Y).ae J).ai U) ?_;refine go ?_;refine kV (kv:=fY) x.fI (v:=.bool true) M2 λu3 M3 k3 s3=>?_;refine go ?_;refine next (k+1) ⟨Yn,Yt⟩ ⟨Y,a7.trans k3,_,M3,λi=>?_⟩ Y;rw[ak,CB];unfold dZ;by_cases e:i=x.fI
  .rw[asp e,asE ⟨q1,q2,e.symm⟩,Bool.or_true];rfl
  .rw[aso e,asG λh=>e h.2.2.symm,Bool.or_false,hf]
 rw[asx Y] at hf;have aa:=aE.OC xu;refine aJ (OD aa Y) ?_;rintro _ w6 ⟨A1,c1,rfl,o6⟩;have x6:=o6.ae;have bh:=B4.ah ku Y;have bg:=B5.ah ku Y;have be:=B7.ah ku Y;have pred:∀(z:qY) (v:World),ax u v->aA 198 #[.agg (eY z).toArray,ptr b5,ptr b4,ptr b7] v (.bool (!GG xs aH aN z.d)):=λz v xv=>KY (bg.ae xv) (bh.ae xv) (be.ae xv) (M.ah xv Yt) hf;refine aJ (abS (di:=λz=>GG xs aH aN z.d) o6 Y (λz v xv=>pred z v (x6.trans xv)) pred) ?_;rintro _ w7 ⟨A2,n2,c2,rfl,o7,bm,k7,-⟩;have O:=o7.base xu;obtain⟨ys,a8⟩:∃ys,ys=zs.filter λz=>GG xs aH aN z.d:=⟨_,U⟩;rw[<-a8] at O;have b0:ys.length=n2:=by have:=O.own.an;rw[bz (K:=9) λ_=>rfl] at this;omega
 have X:(rV DB ys).map qY.d=Cu xs aH aN:=by rw[VD (lt:=am2) (lt':=DB) (f:=qY.d) λx y=>rfl,a8,Cu,<-ab,List.filter_map];rfl
 have W:∀z∈rV DB ys,KW D w z:=λz hz=>by have:=(rW _).mem_iff.1 hz;rw[a8] at this;exact ay z (at6.1 this).1
 rcases O.form with⟨hA,b3,b8⟩|⟨gg,rfl,br,bp,b2⟩
 .subst hA;subst b3;subst b8;have b1:=asL Y;refine aJ VG ?_;rintro _ w8 ⟨rfl,rfl⟩;refine aJ MG ?_;rintro _ w9 ⟨b,rfl,x9,hb,b6⟩;refine aQ _ U ⟨b,none,0,0,rV DB ys,U,O.ae.trans x9,by have:=O.ae.size;omega,hb,?_,X,W⟩;rw[b1];exact bu.nil (O.ae.trans x9)
 .obtain⟨rest,ba,aq,-⟩:=jH.aS O.own;refine aJ (abV ba Y Y) ?_;rintro _ w8 ⟨rfl,bb,k8⟩;have x8:=O.ae.ag k8 λb hb _ e=>Y;have o8:bu w w8 (aL gg) n2 c2 87 9 ((rV DB ys).flatMap eY):=⟨jH.iH bb (by rw[bz (K:=9) λ_=>rfl,oF,b0]) (by rw[asu,bz (K:=9) λ_=>rfl] at aq|-;rw[oF];exact aq) b2 O.own.cap,x8,λg' V=>by injection V with V;injection V with V;omega⟩
  refine aJ MG ?_;rintro _ w9 ⟨b,rfl,x9,hb,b6⟩;exact aQ _ U ⟨b,aL gg,n2,c2,rV DB ys,U,o8.ae.trans x9,by have:=o8.ae.size;omega,hb,o8.ag x9,X,W⟩
end
noncomputable def vz (b:BK):Int×Int->Option Value:=λq=>(b q).map iv
theorem wG{b:BK}:(vz b k).getD (iv 0)=iv (ml b k):=by
 unfold vz ml;cases b k<;>rfl
theorem VH{b:BK}{V:Int}(h:V=ml b k):(dZ (vz b) k ((vz b k).getD (iv 0)) k).getD (iv 0)=iv V:=by
 unfold dZ;rw[asp U,h,wG];rfl
theorem GK{b:BK}{n:Int}{v:Value}:dZ (dZ (vz b) k v) k (iv (ml b k+n))=vz (nK b k n):=by
 funext q;unfold dZ vz nK;by_cases e:q=k
 .exact Yg
 .simp only[aso e]
theorem VI{b:BK}:OB (vz b) k=vz (mn b k):=by
 funext q;unfold OB vz mn;by_cases e:q=k
 .exact Yg
 .simp only[aso e]
section
variable {D:Nat->Prop} {w:World} {A:Option Addr} {n c:Nat} {g:Nat} {b:BK}
theorem OG{z:qY}{m:Int}:aA 271 #[.map (some g),.agg (eY z).toArray,iv m] w (.tuple #[]):=by
 refine aF func271 Z<|box λM J h1=>ret ⟨U,h1.ae⟩
theorem RS{z:qY}{m:Int}(M:fL dE w g (vz b))(hb: -9223372036854775808<=ml b (z.d.right,z.d.to)+m/\ml b (z.d.right,z.d.to)+m<=9223372036854775807):aK prog 269 #[.map (some g),.agg (eY z).toArray,iv m] w (λv w'=>v=.tuple #[]/\fL dE w' g (vz (nK b (z.d.right,z.d.to) m))/\aj (λb=>b≠g) w w'):=by
 apply aF func269 Z;refine box λb4 w1 h1=>?_;have B4:=h1.aS;have e4:=h1.au;have M1:=M.ah h1.ae Yt;have lg:=M.g.lt;obtain⟨V0,hV0⟩:∃V0,V0=ml b (z.d.right,z.d.to):=⟨_,U⟩;apply bR (oP [9,11] [11] [0,1,2,3,4,5,6,7,8,9,10,11]) [11] (λy=>aj (λb=>b≠g) w1 y/\∃f',dw dE y g f'/\(f' (z.d.right,z.d.to)).getD (iv 0)=iv V0) mx Z ⟨.refl _ _,_,M1.g,by rw[wG,hV0]⟩;refine go ?_;refine pb _ (λy hy=>hy.1.ai (B4.ai U) (show b4≠g from Y)) ?_;refine go ?_;refine pb (iv z.d.to) (λy hy=>hy.1.ai (B4.ai U) (show b4≠g from Y)) ?_;refine hY [iv z.d.right,iv z.d.to] Z ?_;refine dh (kv:=dE) (z.d.right,z.d.to) (iv V0) (λy hy=>hy.2) ?_;refine go ?_;refine rU (kv:=dE) (z.d.right,z.d.to) M1 λu7 O MS k7 J=>?_;refine Us ?_;refine wj (v:=iv (V0+m)) MS λu8 M8 k8 zs8=>?_;refine go ?_;rw[hV0,GK] at M8;exact ret ⟨U,M8,((ax.any h1.ae).trans k7).trans k8⟩
set_option maxRecDepth 4000 in
theorem OH{d:aU}{z:qY}{m:Int}(M:fL dE w g (vz b))(hs:bS DR D w z.A z.n z.d.parts)(hc:z.n<=z.c)(hD:∀x,D x->x≠g)(hw:lL d.aR.length z.d.parts=true)(B:kI d b)(hm:0<=m)(hr:0<=z.d.right/\∃y,d.bn[z.d.right.toNat]? =some y/\y.kind=1)(ht:jA d.aR.length b z.d.right+m<=1073741824):aK prog 270 #[.map (some g),.agg (eY z).toArray,iv m] w (λv w'=>v=.tuple #[]/\fL dE w' g (vz (Oy b z.d m))/\aj (λb=>b≠g) w w'):=by
 obtain⟨x,A,n,c⟩:=z;simp only at hs hc hw hr ht;have hl:=hs.an;have hle:=hs.le;have O:=EU hw;obtain⟨l1,l2⟩:=Cp hw m;have J:=MD hm λp hp=>(O p hp).2;have hlen:x.parts.length<=16:=by obtain⟨t,-,-,-,-,h⟩:=Co hw;exact h
 have bI:0<=jA d.aR.length b x.right:=kC λf _=>B.pos _;have hS:=λk hk=>B.uV hr hm O Y k hk;apply aF func270 Z;refine box λb4 w1 h1=>?_;have B4:aP w1 b4 87 (x.cc A n c):=h1.aS;have e4:=h1.au;have lg:=M.g.lt;have M1:fL dE w1 g (vz b):=M.ah h1.ae Yt;have ay:=hs.ae h1.ae;refine go ?_;refine aM (λk:Nat=>[(18,iv (k:Int)),(6,iv (m-aV (jz (x.parts.take k) m)))]) (λk u=>k<=n/\aj (λb=>b≠g) w1 u/\fL dE u g (vz (uV x.right m b (x.parts.take k)))) (λk _=>n-k) 0 ⟨U,by show iv m=iv (m-0);rw[Int.sub_zero],Yt⟩ ⟨Y,.refl _ _,M1⟩ U ?_;rintro G k u ⟨hk,ku,Mu⟩;have hfk:=Cv J k;refine cD (λhlt=>?_) λhge=>?_
 .obtain⟨bp,o,cs,p,rfl,hp,-,-,hcp,rfl⟩:=(ay.ah ku λb _ h=>hD b h).au (show k<n from Y);have htk:x.parts.take (k+1)=x.parts.take k++[p]:=by rw[asD,hp];rfl
  have b0:=O p (asq hp);have bT:=cV.1 b0.2.1;have a7:=Cv J (k+1);rw[htk,tp,fD] at a7;have bw:=J _ (asS.2 ⟨p,asq hp,U⟩);obtain⟨Bk,-⟩:=hS k Y;have f0:0<=aV (jz (x.parts.take k) m):=by
   have:=kC (f:=λy:Int=>y) (l:=jz (x.parts.take k) m) λy hy=>J y (by obtain⟨q,hq,rfl⟩:=asS.1 hy;exact asS.2 ⟨q,asW hq,U⟩)
   rwa [awv] at this
  refine go ?_;refine alloc λb8 u1 a1=>?_;refine fg a1.aS λu2 B8 k2 z2=>?_;have e8:=a1.au;have xu2:=a1.ae.ag k2 λb hb _ e=>Y;refine go ?_;refine fj _ ((bF.aS B8).JR 1 2) U ?_;refine bW (FU (a:=p.q) (n:=m)) λu3 x3=>?_;have bt:(ny p.q m).1=p.q.n*m/p.q.d:=by unfold ny;rw[asp b0.2.1,aso Y]
  rw[bt];obtain⟨lo,V⟩:∃lo,lo=p.q.n*m/p.q.d:=⟨_,U⟩;rw[<-V] at bw a7|-;have af:=xu2.trans x3;have bq:=Mu.g.lt;have ak:aj (λb=>b≠g) w1 u3:=ku.trans (ax.any af);have B8:=B8.ae x3;have B4u:=B4.ah ak Y;have bg:=Mu.ah af Yt;obtain⟨V0,hV0⟩:∃V0,V0=ml (uV x.right m b (x.parts.take k)) (x.right,p.aO):=⟨_,U⟩;have be:0<=V0/\V0<=1073741824:=by rw[hV0];exact⟨Bk.pos _,Bk.le _⟩
  refine bR (oP [9,11] [11] [0,1,2,3,4,5,6,7,8,9,10,11]) [11] (λy=>aj (λb=>b≠g) u3 y/\∃f',dw dE y g f'/\(f' (x.right,p.aO)).getD (iv 0)=iv V0) mx Z ⟨.refl _ _,_,bg.g,by rw[wG,hV0]⟩ ?_;refine go ?_;refine pb (iv x.right) (λy hy=>hy.1.ai (B4u.ai U) (show b4≠g from Y)) ?_;refine apc ?_;refine rU (kv:=dE) (x.right,p.aO) bg λu7 s7 MS k7 bo=>?_;refine Us ?_;refine wj (v:=iv (V0+lo)) MS λu8 M8 k8 zs8=>?_;refine go ?_;rw[hV0,GK,V] at M8;refine go ?_;refine next (k+1) ⟨Yn,by rw[htk,tp,fD,<-V];exact congrArg iv Y,Yt⟩ ⟨Y,(ak.trans k7).trans k8,by rw[htk,EV];exact M8⟩ Y
 have hkn:k=n:=Y;subst hkn;rw[asx Y] at Mu hfk|-;obtain⟨left,a6⟩:∃left:Nat,m-aV (jz x.parts m)=left:=⟨(m-aV (jz x.parts m)).toNat,Y⟩;have hlt:left<x.parts.length:=Y;obtain⟨B1,t1⟩:=hS x.parts.length (asN _);rw[auh] at B1 t1;have br:Oy b x m=ye x.right (uV x.right m b x.parts) (x.parts.take left):=by unfold Oy;rw[a6];rfl
 have B4u:=B4.ah ku Y;have av:=ay.ah ku λb _ h=>hD b h;have bE:=λk hk=>B1.ye (l:=x.parts.take left) hr (λp hp=>(O p (asW hp)).1) (by rw[asF,t1];omega) k hk;refine go ?_;refine Km 0 left av hc U a6 Y Y U λA8 hA8=>?_;have a8:=hA8 _ _ av;rw[at3,aup] at a8;rw[aup,aup];have bx:=a8.an;rw[asF] at bx;refine an ?_;refine aM (λj:Nat=>[(50,iv (j:Int))]) (λj u2=>j<=left/\aj (λb=>b≠g) u u2/\fL dE u2 g (vz (ye x.right (uV x.right m b x.parts) ((x.parts.take left).take j)))) (λj _=>left-j) 0 ⟨U,Yt⟩ ⟨Y,.refl _ _,Mu⟩ U ?_;rintro G2 j u2 ⟨hj,kj,Mj⟩;refine cD (λhlt2=>?_) λhge2=>?_
 .obtain⟨bp,o,cs,p,rfl,hp,-,-,hcp,rfl⟩:=(a8.ah kj λb _ h=>hD b h).au (show j<left from Y);have htk:(x.parts.take left).take (j+1)=(x.parts.take left).take j++[p]:=by rw[asD,hp];rfl
  obtain⟨Bj,-⟩:=bE j (by rw[asF];omega);refine go ?_;refine alloc λb8 u3 a1=>?_;refine fg a1.aS λu4 B8 k2 z2=>?_;have e8:=a1.au;have aa:=a1.ae.ag k2 λb hb _ e=>Y;have bq:=Mj.g.lt;have aq:=kj.trans (ax.any aa);have bG:=B4u.ah aq Y;have bk:=Mj.ah aa Yt;obtain⟨V0,hV0⟩:∃V0,V0=ml (ye x.right (uV x.right m b x.parts) ((x.parts.take left).take j)) (x.right,p.aO):=⟨_,U⟩;have be:0<=V0/\V0<=1073741824:=by rw[hV0];exact⟨Bj.pos _,Bj.le _⟩
  refine bR (oP [8,10] [10] [0,1,2,3,4,5,6,7,8,9,10]) [10] (λy=>aj (λb=>b≠g) u4 y/\∃f',dw dE y g f'/\(f' (x.right,p.aO)).getD (iv 0)=iv V0) mx Z ⟨.refl _ _,_,bk.g,by rw[wG,hV0]⟩ ?_;refine go ?_;refine pb _ (λy hy=>hy.1.ai (bG.ai U) (show b4≠g from Y)) ?_;refine apc ?_;refine rU (kv:=dE) (x.right,p.aO) bk λu7 s7 MS k7 bo=>?_;refine Us ?_;refine wj (v:=iv (V0+1)) MS λu8 M8 k8 zs8=>?_;refine go ?_;rw[hV0,GK] at M8;refine go ?_;refine next (j+1) ⟨Yn,Yt⟩ ⟨Y,(aq.trans k7).trans k8,by rw[htk,EW];exact M8⟩ Y
 .have bA:j=left:=Y;subst bA;rw[asx Yg] at Mj;exact ret ⟨U,by rw[br];exact Mj,((ax.any h1.ae).trans ku).trans kj⟩
end
end
section
open Go.Shelf
theorem abW(n:Int)(z:0<=n)(h1:n<18446744073709551616)(W:World):∃k:Int,Calls prog 173 #[.int .u64 n] W λe u=>e=.returned (iv k)/\u=W:=⟨_,Any.bits_Len (SlLaysF0.n15.bits {Tryz.jsort with}) n W Y Y⟩
section
variable {w:World}
theorem vf(h1:n<18446744073709551616):aK prog 173 #[nV n] w (λv u=>(∃k,v=iv k)/\u=w):=by
 intro w0 hw;subst hw;rw[avi];obtain⟨k,hk⟩:=abW (n:Int) Y Y w0;apply hk.mono;rintro e u ⟨rfl,rfl⟩;exact⟨_,U,⟨k,U⟩,U⟩
theorem VJ{a b:Int}:aK prog 347 #[iv a,iv b] w (λv u=>v=.bool (decide (a<b))/\u=w):=by
 refine aF func347 Z<|aJ FR ?_;rintro _ _ ⟨rfl,rfl⟩;refine cD (λq=>?_) λq=>?_
 .exact aQ (.bool true) U ⟨by rw[asE q],U⟩
 .exact aQ (.bool false) U ⟨by rw[asG q],U⟩
theorem wH{l:aX}{k:Nat}{x:Int}(h:k<l.length):(cJ l++rest).set k (iv x)=cJ (l.set k x)++rest:=by
 rw[List.set_append_left _ _ Yg];unfold cJ;rw[avX]
theorem mu{l:aX}{k:Nat}{x:Int}(h:l[k]? =some x):(cJ l++rest)[k]? =some (iv x):=by
 have hk:=(asr.1 h).1;unfold cJ;rw[asR Yg,as6,h];rfl
theorem RT{l:aX}{c:Nat}(hb0:aP w g 3 (cJ l++rest))(hn:n=l.length)(hle:n<=12):aK prog 341 #[aB (aL g) n c,iv 0,iv n] w (λv w'=>v=.tuple #[]/\∃J,J.length=n/\aP w' g 3 (cJ J++rest)/\aj (λb=>b≠g) w w'):=by
 apply aF (args:=[aB (aL g) n c,iv 0,iv n]) func341 Z;apply eD (n:=1) Y;apply aM (λi:Nat=>[(6,iv ((i:Int)+1))]) (λi u=>(i+1<=n\/i=0)/\aj (λb=>b≠g) w u/\∃J,J.length=n/\aP u g 3 (cJ J++rest)) (λi _=>n-i) 0 ⟨U,Yt⟩ ⟨.inr U,.refl _ _,l,hn.symm,hb0⟩ U;rintro G i u ⟨hi,ku,l1,O,hb⟩;refine cD (λhlt=>?_) λhge=>?_
 .refine aM (λj:Nat=>[(7,iv (j:Int))]) (λj u1=>j<=i+1/\aj (λb=>b≠g) w u1/\∃J,J.length=n/\aP u1 g 3 (cJ J++rest)) (λj _=>j) (i+1) ⟨Yn,Yt⟩ ⟨asN _,ku,l1,O,hb⟩ U ?_;rintro G2 j u1 ⟨hj,k1,l2,hl2,hb2⟩;apply bR (oP [] [] [0,1,2,3,4,5,6,7,8,9,10,11,12,13,14]) [] (λz=>ax u1 z) mx Z (.refl _ _);refine cD (λa6=>?_) λa6=>?_
  .obtain⟨j',rfl⟩:∃j',j=j'+1:=⟨j-1,Y⟩;obtain⟨x,hx⟩:=gx l2 (j'+1);obtain⟨y,hy⟩:=gx l2 j';apply idx (j'+1) U Y;refine fu _ (hb2.ai (by rw[show 0+(j'+1)*1=j'+1 from Y];exact mu hx)) Yt (.refl _ _) ?_;apply eD Y;apply idx j' Y Y;refine fu _ (hb2.ai (by rw[show 0+j'*1=j' from Y];exact mu hy)) Yt (.refl _ _) ?_;refine P7 (b:=decide (x<y)) (λu hu=>VJ) (λq=>?_) λq=>?_;rotate_left
   .exact Yv
   refine bR (oP [15,17] [15] [0,1,2,3,4,5,6,7,8,9,10,11,12,13,14,15,16,17]) [15,16,17] (λz=>z=u1) mx Z U ?_;refine go ?_;refine idx j' Y Y ?_;refine ld _ (hb2.ai (by rw[show 0+j'*1=j' from Y];exact mu hy)) ?_;refine idx (j'+1) U Y ?_;refine ld _ (hb2.ai (by rw[show 0+(j'+1)*1=j'+1 from Y];exact mu hx)) ?_;refine idx (j'+1) U Y ?_;refine gv (λ_=>True) Yt ?_;have hlen:(cJ l2++rest).length=n+rest.length:=by unfold cJ;rw[asu,asz,hl2]
   refine st (v:=iv y) hb2 Y U λu3 b3 k3 s3=>?_;have b3:aP u3 g 3 (cJ (l2.set (j'+1) y)++rest):=by have e:0+(j'+1)*1=j'+1:=Y;rw[e,wH Y] at b3;exact b3
   refine go ?_;refine idx j' Y Y ?_;have V:(cJ (l2.set (j'+1) y)++rest).length=n+rest.length:=by unfold cJ;rw[asu,asz,asU,hl2]
   refine st (v:=iv x) b3 Y U λu4 b4 k4 s4=>?_;have b4:aP u4 g 3 (cJ ((l2.set (j'+1) y).set j' x)++rest):=by have e:0+j'*1=j':=Y;rw[e,wH (by rw[asU];omega)] at b4;exact b4
   refine go ?_;exact next j' ⟨congrArg (Value.int .i64) Y,Yt⟩ ⟨Y,(k1.trans k3).trans k4,_,by rw[asU,asU,hl2],b4⟩ Y
  .exact Yv
 .exact ret ⟨U,l1,O,hb,ku⟩
theorem abX{l:aX}{c:Nat}{lim:Int}(A:aP w g 3 (cJ l++rest))(M:n=l.length)(hle:n<=12):aK prog 272 #[aB (aL g) n c,iv 0,iv n,iv lim] w (λv J=>v=.tuple #[]/\∃z,z.length=n/\aP J g 3 (cJ z++rest)/\aj (λb=>b≠g) w J):=by
 refine aF func272 Z ?_;refine aM (λ_:Unit=>[(1,iv 0),(2,iv n),(3,iv lim),(8,.bool true),(9,.bool true)]) (λ_ u=>w=u) (λ_ _=>0) () ⟨U,U,U,U,U,Yt⟩ U rfl ?_;rintro G _ u rfl;refine go ?_;refine cD (λq=>?_) λq=>Y;refine aJ (RT A M hle) ?_;rintro _ W ⟨rfl,z,h1,V,O⟩;exact ret ⟨U,z,h1,V,O⟩
theorem VL{l:aX}{c:Nat}(z:aP w g 3 (cJ l++rest))(J:n=l.length)(hle:n<=12):aK prog 195 #[aB (aL g) n c] w (λv A=>v=.tuple #[]/\∃u,u.length=n/\aP A g 3 (cJ u++rest)/\aj (λb=>b≠g) w A):=by
 refine aF func195 Z<|an<|qP (n:=n) U Y<|aJ (vf Y) ?_;rintro _ _ ⟨⟨k,rfl⟩,rfl⟩;apply aJ (abX z J hle);rintro _ V ⟨rfl,u,h1,O,M⟩;exact ret ⟨U,u,h1,O,M⟩
theorem OJ:aK prog 341 #[aY,iv 0,iv 0] w (λv w'=>v=.tuple #[]/\w'=w):=by
 refine aF func341 Z<|go<|aM (λ_:Unit=>[(6,iv 1)]) (λ_ u=>w=u) (λ_ _=>0) () ⟨U,Yt⟩ U rfl ?_;exact LQ
theorem VN{lim:Int}:aK prog 272 #[aY,iv 0,iv 0,iv lim] w (λv z=>v=.tuple #[]/\z=w):=by
 refine aF func272 Z ?_;refine aM (λ_:Unit=>[(1,iv 0),(2,iv 0),(3,iv lim),(8,.bool true),(9,.bool true)]) (λ_ u=>w=u) (λ_ _=>0) () ⟨U,U,U,U,U,Yt⟩ U rfl ?_;rintro G _ u rfl;refine go ?_;refine cD (λq=>?_) λq=>Y;refine aJ OJ ?_;rintro _ A ⟨rfl,rfl⟩;exact ret ⟨U,U⟩
theorem RU:aK prog 195 #[aY] w (λv u=>v=.tuple #[]/\u=w):=by
 refine aF func195 Z<|an<|qP (n:=0) U Y<|aJ (vf (n:=0) Y) ?_;rintro _ _ ⟨⟨k,rfl⟩,rfl⟩;apply aJ VN;rintro _ z ⟨rfl,rfl⟩;exact ret ⟨U,U⟩
end
end
section
open Go.Sort Go.Shelf Classical
theorem gA{a b:Int}:cx a b<0↔a<b:=by
 unfold cx;split
 .exact Yg
 .exact Yg
theorem nN{a b:Int}:cx a b=0↔a=b:=by
 unfold cx;split
 .exact Yg
 .exact Yg
theorem vg{α:Type}{lt:α->α->Bool}{A:α->α->Int}(he:∀x y,ltOf A x y=lt x y)(o:JV lt)(J:∀x y z,lt x y=false->lt y z=false->lt x z=false):SWO (ltOf A) where
 irrefl x:=by rw[he];exact o.irr x
 trans x y z h1 u:=by rw[he] at*;exact o.tr _ _ _ h1 u
 ntrans x y z h1 u:=Yg
instance:Inhabited tm:=⟨⟨0,0,0,0⟩⟩
def cfH(x y:tm):Int:=if cx x.right y.right≠0 then cx x.right y.right else cx x.aO y.aO
theorem RV(x y:tm):ltOf cfH x y=MB x y:=by
 unfold ltOf MB cfH;have h1:=gA (a:=x.right) (b:=y.right);have z:=gA (a:=x.aO) (b:=y.aO);have u:=nN (a:=x.right) (b:=y.right);rw[auD];split<;>omega
theorem VO:SWO (ltOf cfH):=vg RV MC λx y z h1 u=>by unfold MB at*;rw[asZ] at*;omega
section
variable {w:World}
theorem VP{s:List tm}{c:Nat}{t:TypeId}(X:aP w g t (s.flatMap tm.c++rest))(V:n=s.length)(W:n<=1000000)(hd:fT MB s):aK prog 101 #[aB (aL g) n c,.func (.func 102) #[] #[]] w (λv A=>v=.tuple #[]/\aP A g t ((il MB s).flatMap tm.c++rest)/\aj (λb=>b≠g) w A):=by
 subst V;obtain⟨i,hi,hs⟩:=(gu (P:=prog) (t:=124) (n:=4) Z).2;have h:=qv (enc:=tm.c) (K:=4) Tryz.hsort (λw=>iF (P:=prog) (t:=124) (n:=4) Z w) (λw=>by have:=run_sizeOf (P:=prog) hi w;rw[hs] at this;exact this) (λ_=>rfl) (λx v M=>by simp only[asM,ats,aur] at M;rcases M with rfl|rfl|rfl|rfl<;>rfl) VO (fn:=102) (caps:=#[]) (avn func102 Z U) (λu _ x y=>amV x.right x.aO x.aC x.cC y.right y.aO y.aC y.cC u) (c:=c) X W;apply aK.mono h;rintro v A ⟨rfl,Y,O,J,z,k⟩;rw[uR MC RV O hd J] at z;exact⟨U,z,k⟩
end
end
section
open Classical
variable {d:aU}
structure jd where
 no:Int
 aH:Int
 kind:Int
 aO:Int
 other:Int
 dq:Int
 to:Int
 n:Int
 fI:Int
abbrev jd.c(x:jd):aW:=[iv x.no,iv x.aH,iv x.kind,iv x.aO,iv x.other,iv x.dq,iv x.to,iv x.n,iv x.fI]
def wI:Ty jd:=JS 9 jd.c λ_=>rfl
abbrev K7(d:aU)(i:Int):Bool:=dS i 0 ((d.aR.length:Int)-1)
def kJ(d:aU)(x:jd):Bool:=(dS x.kind 1 4&&(K7 d x.aO&&(dS x.dq 0 x.to&&decide (x.to<d.aG))))&&(decide (x.kind=1/\x.n=0\/x.kind≠1/\dS x.n 1 1073741824=true)&&(if x.kind<3 then decide (x.other=0) else(K7 d x.other&&decide (x.other≠x.aO))&&decide (x.kind=4\/(jh d x.other.toNat).aZ=(jh d x.aO.toNat).aZ)))
def EY(x:jd):Bool:=decide (x.kind=0/\x.aO=0/\x.other=0/\x.dq=0/\x.to=0/\x.n=0)
def lk(d:aU):(Int->Bool)->Int->Int->List jd->Bool
 |_,_,_,[]=>true
 |o,a,b,x::l=>(dS x.no 0 1048576&&dS x.aH 0 d.aG)&&(decide (a<x.no/\b<=x.aH)&&
  (if x.fI=0 then kJ d x&&lk d (λq=>if q=x.no+1 then true else o q) x.no x.aH l
  else(o x.fI&&EY x)&&lk d (λq=>if q=x.fI then false else o q) x.no x.aH l))
def fC(d:aU)(l:List jd):Int:=if cH d≠0 then cH d else if 64<l.length then 2 else if lk d (λ_=>false) (-1) (-1) l then 0 else 530
theorem IP{l:List jd}:fC d l=0↔cH d=0/\l.length<=64/\lk d (λ_=>false) (-1) (-1) l=true:=by
 unfold fC;exact Ug
theorem tv:∀{l:List jd} {o:Int->Bool} {a b:Int},lk d o a b l=true->∀x∈l,x.fI=0->kJ d x=true
 |[],_,_,_,_,_,u,_=>by cases u
 |y::l,o,a,b,h,x,u,z=>by
  unfold lk at h
  rw[asv] at h
  have h:=h.2
  rw[asv] at h
  have h:=h.2
  rcases asM.1 u with rfl|u
  .rw[asp z,asv] at h;exact h.1
  .split at h
   .rw[asv] at h;exact tv h.2 x u z
   .rw[asv] at h;exact tv h.2 x u z
theorem tw{x:jd}(h:kJ d x=true):(1<=x.kind/\x.kind<=4)/\(0<=x.n/\x.n<=1073741824)/\(x.kind=3->(0<=x.other/\x.other<d.aR.length)/\x.other≠x.aO/\(jh d x.other.toNat).aZ=(jh d x.aO.toNat).aZ):=by
 unfold kJ at h;simp only[asv,asy] at h;obtain⟨⟨h1,-⟩,u,z⟩:=h;have h1:=bO.1 h1;refine⟨h1,?_,λk=>?_⟩
 .rcases u with u|u
  .omega
  .have:=bO.1 u.2;omega
 .rw[aso Y] at z;simp only[asv,asy] at z;obtain⟨⟨a,b⟩,c⟩:=z;have a:=bO.1 a;refine⟨Y,b,?_⟩;rcases c with c|c
  .omega
  .exact c
def RW(j:List jd)(x:jd)(aH:Int):Bool:=j.any λy=>decide (y.fI=x.no+1)&&decide (y.aH<=aH)
def K8(j:List jd)(aH:Int)(x:jd):Bool:=decide (x.fI=0)&&(decide (x.aH<=aH)&&(dS aH x.dq x.to&&!RW j x aH))
def mV(j:List jd)(aH:Int):List jd:=j.filter (K8 j aH)
def jY(f:Int):Int->List Cm->List Cm
 |_,[]=>[]
 |left,c::l=>if c.aO=f then{c with aC:=min c.aC left}::jY f (left-min c.aC left) l else c::jY f left l
def wJ(x:jd)(r:Int)(y:Cm):Bool:=decide (y.aO=x.other)&&decide (y.right=r)
def vh(x:jd)(i:Nat)(s:Int×List Cm):Int×List Cm:=match s.2[i]? with
 |none=>s
 |some c=>if c.aO≠x.aO then s else
  (s.1-min c.aC s.1,match(s.2.set i {c with aC:=c.aC-min c.aC s.1}).findIdx? (wJ x c.right) with
   |some k=>(s.2.set i {c with aC:=c.aC-min c.aC s.1}).modify k λy=>{y with aC:=y.aC+min c.aC s.1}
   |none=>s.2.set i {c with aC:=c.aC-min c.aC s.1}++[{c with aO:=x.other,aC:=min c.aC s.1}])
def XL(x:jd):Nat->Int×List Cm->Int×List Cm
 |0,s=>s
 |i+1,s=>XL x i (vh x i s)
def RX(x:jd)(l:List Cm):List Cm:=(XL x l.length (x.n,l)).2
def sf(x:jd)(l:List Cm):List Cm:=if x.kind=1\/x.kind=2 then jY x.aO x.n l else if x.kind=3 then RX x l else l
def EZ(a b:Cm):Bool:=decide (a.cC<b.cC\/a.cC=b.cC/\(a.right<b.right\/a.right=b.right/\a.aO<b.aO))
theorem RY:JV EZ:=⟨λa=>by unfold EZ;rw[asZ];omega,λa b c h1 u=>by unfold EZ at*;rw[asy] at*;omega⟩
def GN(l:List Cm):List Cm:=il EZ (l.filter λc=>decide (c.aC≠0))
def pE(js:List jd)(l:List Cm):List Cm:=js.foldl (λl x=>GN (sf x l)) l
def CC(j:List jd):Nat->List Cm->List Cm
 |0,_=>[]
 |_+1,[]=>[]
 |f+1,c::l=>pE (mV j c.aH) ((c::l).takeWhile λy=>decide (y.aH=c.aH))++CC j f ((c::l).dropWhile λy=>decide (y.aH=c.aH))
def ym(j:List jd)(l:List Cm):List Cm:=CC j l.length l
def zF(c:Cm):Bool:=decide (c.aC<=1073741824)
noncomputable def iq (d:aU)(c:List Cm)(j:List jd):Int:=if fC d j≠0 then fC d j else if ez d c≠0 then ez d c else if 4096<(ym j c).length\/(ym j c).all zF=false then 2 else 0
abbrev iO(l:List Cm):aX:=l.map (·.aC)
structure dK (d:aU) (Q:Int->Prop) (h:Int) (l:List Cm):Prop where
 yj:∀c∈l,c.aH=h/\(0<=c.right/\c.right<d.bn.length)/\(0<=c.aO/\c.aO<d.aR.length)/\(∃y,d.bn[c.right.toNat]? =some y/\y.kind=1/\y.cC=c.cC)/\0<=c.aC/\Q c.aO
 EJ:l.Pairwise λa b=>a.right≠b.right\/a.aO≠b.aO
 rf:aV (iO l)<=4398046511104
variable {Q:Int->Prop} {h:Int}
theorem dK.same{u:List Cm}(G:dK d Q h l)(e:u.map (λc=>(c.right,c.aO,c.aH,c.cC))=l.map λc=>(c.right,c.aO,c.aH,c.cC))(M:∀c∈u,0<=c.aC)(J:aV (iO u)<=4398046511104):dK d Q h u:=by
 refine⟨λc z=>?_,?_,J⟩
 .have h1:(c.right,c.aO,c.aH,c.cC)∈l.map λc=>(c.right,c.aO,c.aH,c.cC):=by rw[<-e];exact asS.2 ⟨c,z,U⟩
  obtain⟨b,O,A⟩:=asS.1 h1;simp only[atm] at A;obtain⟨Y,X,W,V⟩:=A;obtain⟨a1,a2,a3,a4,-,Z⟩:=G.yj b O;rw[<-Y,<-X,<-W,<-V];exact⟨a1,a2,a3,a4,M c z,Z⟩
 .have h1:(u.map λc=>(c.right,c.aO,c.aH,c.cC)).Pairwise λa b=>a.1≠b.1\/a.2.1≠b.2.1:=by rw[e,atN];exact G.EJ
  rw[atN] at h1;exact h1
theorem yn{f:Int}:∀{l:List Cm} {left:Int},(jY f left l).map (λc=>(c.right,c.aO,c.aH,c.cC))=l.map λc=>(c.right,c.aO,c.aH,c.cC)
 |[],_=>rfl
 |c::l,left=>by
  unfold jY
  split
  .rw[asQ,asQ,yn]
  .rw[asQ,asQ,yn]
theorem CD{f:Int}:∀{l:List Cm} {left:Int},0<=left->(∀c∈l,0<=c.aC)->(∀c∈jY f left l,0<=c.aC)/\aV (iO (jY f left l))<=aV (iO l)
 |[],_,_,_=>⟨λc A=>(by cases A),asO _⟩
 |c::l,left,M,z=>by
  have A:=z c ass
  unfold jY
  split
  .obtain⟨h1,J⟩:=CD (f:=f) (l:=l) (left:=left-min c.aC left) Y λx u=>z x (ast _ u)
   refine⟨λx u=>?_,?_⟩
   .rcases asM.1 u with rfl|u
    .show 0<=min c.aC left;omega
    .exact h1 x u
   .show aV (min c.aC left::iO (jY f (left-min c.aC left) l))<=aV (c.aC::iO l)
    rw[bK,bK]
    omega
  .obtain⟨h1,J⟩:=CD (f:=f) (l:=l) (left:=left) M λx u=>z x (ast _ u)
   refine⟨λx u=>?_,?_⟩
   .rcases asM.1 u with rfl|u
    .exact A
    .exact h1 x u
   .show aV (c.aC::iO (jY f left l))<=aV (c.aC::iO l)
    rw[bK,bK]
    omega
theorem dK.lim(G:dK d Q h l){f left:Int}(z:0<=left):dK d Q h (jY f left l):=by
 obtain⟨h1,A⟩:=CD (f:=f) z λc u=>(G.yj c u).2.2.2.2.1;have:=G.rf;exact G.same yn h1 Y
theorem IQ{l:List Cm}{i:Nat}{c c':Cm}(u:l[i]? =some c):aV (iO (l.set i c'))=aV (iO l)+(c'.aC-c.aC):=by
 induction l generalizing i with
 |nil=>simp at u
 |cons a l z=>
  cases i with
  |zero=>
   simp at u;subst u;show aV (c'.aC::iO l)=aV (a.aC::iO l)+_;rw[bK,bK];omega
  |succ i=>
   have:=z (i:=i) (by simpa using u);show aV (a.aC::iO (l.set i c'))=aV (a.aC::iO l)+_;rw[bK,bK];have e:=this;omega
theorem dK.set(G:dK d Q h l){i:Nat}{c:Cm}(z:l[i]? =some c){n:Int}(J:0<=n)(A:aV (iO l)+(n-c.aC)<=4398046511104):dK d Q h (l.set i {c with aC:=n}):=by
 have hi:=(asr.1 z).1;refine G.same ?_ (λx u=>?_) (by rw[IQ z];exact A)
 .rw[avX];apply atG;intro j;rw[auc];split
  .rename_i e;subst e;rw[as6,z,asz,asp hi];rfl
  .rfl
 .rcases auV u with u|rfl
  .exact(G.yj x u).2.2.2.2.1
  .exact J
theorem CE{α:Type}{l:List α}{k:Nat}{y:α}{f:α->α}(u:l[k]? =some y):l.modify k f=l.set k (f y):=by
 apply atG;intro j;have hk:=(asr.1 u).1;rw[auz,auc];by_cases e:k=j
 .subst e;simp[hk,(asr.1 u).2]
 .simp[e]
theorem dK.vh{x:jd}(hx:kJ d x=true)(hk:x.kind=3)(hQ:Q x.aO->Q x.other){i:Nat}{s:Int×List Cm}(h0:0<=s.1)(G:dK d Q h s.2):0<=(vh x i s).1/\dK d Q h (vh x i s).2:=by
 obtain⟨-,-,h3⟩:=tw hx;obtain⟨ho,a7,-⟩:=h3 hk;unfold Go.Proofs.YtakcjkbnfegidaaGreat.vh;cases W:s.2[i]? with
 |none=>exact⟨h0,G⟩
 |some c=>
  simp only;have V:=asq W;obtain⟨a1,a2,a3,a4,a5,a6⟩:=G.yj c V;split
  .exact⟨h0,G⟩
  rename_i u;have u:c.aO=x.aO:=awo.1 u;obtain⟨n,hn⟩:∃n,n=min c.aC s.1:=⟨_,U⟩;rw[<-hn];have X:=G.rf;have A:=IQ (c':={c with aC:=c.aC-n}) W;have A:aV (iO (s.2.set i {c with aC:=c.aC-n}))=aV (iO s.2)+((c.aC-n)-c.aC):=A;have M:=G.set W (n:=c.aC-n) Y Y;refine⟨by show 0<=s.1-n;omega,?_⟩;cases Z:(s.2.set i {c with aC:=c.aC-n}).findIdx? (wJ x c.right) with
  |some k=>
   simp only;obtain⟨J,a8,-⟩:=auX.1 Z;have z:=asw J;rw[CE z];have:=(M.yj _ (au0 J)).2.2.2.2.1;exact M.set z Y (by rw[A];omega)
  |none=>
   simp only;have O:=List.findIdx?_eq_none_iff.1 Z;refine⟨λy z=>?_,?_,?_⟩
   .rcases atf.1 z with z|z
    .exact M.yj y z
    .rw[asP] at z;subst z;exact⟨a1,a2,ho,a4,by show 0<=n;omega,hQ (u▸a6)⟩
   .rw[atH];refine⟨M.EJ,atY _ _,λa ha b hb=>?_⟩;rw[asP] at hb;subst hb;have:=O a ha;unfold wJ at this;rw[avP,asZ,asZ] at this;show a.right≠c.right\/a.aO≠x.other;rcases this with q|q
    .exact .inr q
    .exact .inl q
   .have e:aV (iO (s.2.set i {c with aC:=c.aC-n}++[{c with aO:=x.other,aC:=n}]))=aV (iO (s.2.set i {c with aC:=c.aC-n}))+n:=by unfold iO;rw[asK];exact fD
    rw[e,A];omega
theorem dK.XL{x:jd}(u:kJ d x=true)(hk:x.kind=3)(z:Q x.aO->Q x.other):∀{k:Nat} {s:Int×List Cm},0<=s.1->dK d Q h s.2->dK d Q h (XL x k s).2
 |0,_,_,G=>G
 |k+1,s,A,G=>by
  obtain⟨h1,J⟩:=dK.vh u hk z (i:=k) A G
  exact dK.XL u hk z (s:=Go.Proofs.YtakcjkbnfegidaaGreat.vh x k s) h1 J
theorem dK.abY{x:jd}(u:kJ d x=true)(A:x.kind=3->Q x.aO->Q x.other)(G:dK d Q h l):dK d Q h (sf x l):=by
 obtain⟨-,z,-⟩:=tw u;unfold sf;split
 .exact G.lim z.1
 .split
  .rename_i hk;exact dK.XL u hk (A hk) z.1 G
  .exact G
theorem E0{a b:aX}(p:a.Perm b):aV a=aV b:=by
 induction p with
 |nil=>rfl
 |cons x _ u=>rw[bK,bK,u]
 |swap x y l=>rw[bK,bK,bK,bK];omega
 |trans _ _ h1 z=>exact h1.trans z
theorem dK.perm{u:List Cm}(G:dK d Q h l)(p:u.Perm l):dK d Q h u:=by
 refine⟨λc z=>G.yj c (p.mem_iff.1 z),p.symm.pairwise G.EJ λ{a b} h=>?_,?_⟩
 .rcases h with h|h
  .exact .inl λe=>h e.symm
  .exact .inr λe=>h e.symm
 .have e:aV (iO u)=aV (iO l):=by exact E0 (p.map _)
  rw[e];exact G.rf
theorem dK.filter{l:List Cm}(G:dK d Q h l)(p:Cm->Bool):dK d Q h (l.filter p):=by
 refine⟨λc u=>G.yj c (at6.1 u).1,G.EJ.filter _,?_⟩;have:∀l:List Cm,(∀c∈l,0<=c.aC)->aV (iO (l.filter p))<=aV (iO l):=λl=>by
  induction l with
  |nil=>exactλ_=>asO _
  |cons a l A=>
   intro z;have h1:=A λc u=>z c (ast _ u);have J:=z a ass;rw[atT];split
   .show aV (a.aC::iO (l.filter p))<=aV (a.aC::iO l);rw[bK,bK];omega
   .show aV (iO (l.filter p))<=aV (a.aC::iO l);rw[bK];omega
 have:=this l λc u=>(G.yj c u).2.2.2.2.1;have:=G.rf;omega
theorem dK.tid(G:dK d Q h l):dK d Q h (GN l)/\∀c∈GN l,1<=c.aC:=by
 unfold GN;refine⟨(G.filter _).perm (cP _),λc u=>?_⟩;have u:=(cP _).mem_iff.1 u;obtain⟨h1,z⟩:=at6.1 u;rw[asy] at z;have:=(G.yj c h1).2.2.2.2.1;omega
theorem dK.abZ(G:dK d Q h l):fT EZ l:=by
 refine G.EJ.imp_of_mem λ{a b} A z u=>?_;unfold EZ;rw[asy,asy];omega
theorem dK.srt(G:dK d Q h l):mH EZ (GN l):=qt RY (G.filter _).abZ
end
section
open Go.Sort Go.Shelf Classical
section
variable {w:World}
theorem ab0:aK prog 245 #[aY,iv 0,iv 0,.func (.func fn) #[] caps] w (λv w'=>v=.tuple #[]/\w'=w):=by
 refine aF func245 Z<|go<|aM (λ_:Unit=>[(8,iv 1)]) (λ_ u=>w=u) (λ_ _=>0) () ⟨U,Yt⟩ U rfl ?_;exact LQ
theorem ab1{lim:Int}:aK prog 172 #[aY,iv 0,iv 0,iv lim,.func (.func fn) #[] caps] w (λv z=>v=.tuple #[]/\z=w):=by
 refine aF func172 Z ?_;refine aM (λ_:Unit=>[(1,iv 0),(2,iv 0),(3,iv lim),(10,.bool true),(11,.bool true)]) (λ_ u=>w=u) (λ_ _=>0) () ⟨U,U,U,U,U,Yt⟩ U rfl ?_;rintro G _ u rfl;refine go ?_;refine cD (λq=>?_) λq=>Y;refine aJ ab0 ?_;rintro _ A ⟨rfl,rfl⟩;exact ret ⟨U,U⟩
theorem RZ:aK prog 79 #[aY,.func (.func fn) #[] caps] w (λv w'=>v=.tuple #[]/\w'=w):=by
 refine aF func79 Z<|an<|qP (n:=0) U Y<|aJ (vf (n:=0) Y) ?_;exact Yo
theorem VQ:aK prog 327 #[aY,.func (.func fn) #[] caps] w (λv w'=>v=.tuple #[]/\w'=w):=by
 refine aF func327 Z<|an<|qP (n:=0) U Y<|aJ (vf (n:=0) Y) ?_;exact Yo
theorem ab2:aK prog 257 #[aY,iv 0,iv 0,.func (.func fn) #[] caps] w (λv w'=>v=.tuple #[]/\w'=w):=by
 refine aF func257 Z<|go<|aM (λ_:Unit=>[(8,iv 1)]) (λ_ u=>w=u) (λ_ _=>0) () ⟨U,Yt⟩ U rfl ?_;exact LQ
theorem ab3{lim:Int}:aK prog 178 #[aY,iv 0,iv 0,iv lim,.func (.func fn) #[] caps] w (λv z=>v=.tuple #[]/\z=w):=by
 refine aF func178 Z ?_;refine aM (λ_:Unit=>[(1,iv 0),(2,iv 0),(3,iv lim),(10,.bool true),(11,.bool true)]) (λ_ u=>w=u) (λ_ _=>0) () ⟨U,U,U,U,U,Yt⟩ U rfl ?_;rintro G _ u rfl;refine go ?_;refine cD (λq=>?_) λq=>Y;refine aJ ab2 ?_;rintro _ A ⟨rfl,rfl⟩;exact ret ⟨U,U⟩
theorem R8:aK prog 89 #[aY,.func (.func fn) #[] caps] w (λv u=>v=.tuple #[]/\u=w):=by
 refine aF func89 Z<|an<|qP (n:=0) U Y<|aJ (vf (n:=0) Y) ?_;rintro _ _ ⟨⟨k,rfl⟩,rfl⟩;apply aJ ab3;rintro _ z ⟨rfl,rfl⟩;exact ret ⟨U,U⟩
theorem ab4:aK prog 275 #[aY,iv 0,iv 0,.func (.func fn) #[] caps] w (λv w'=>v=.tuple #[]/\w'=w):=by
 refine aF func275 Z<|go<|aM (λ_:Unit=>[(8,iv 1)]) (λ_ u=>w=u) (λ_ _=>0) () ⟨U,Yt⟩ U rfl ?_;exact LQ
theorem ab5{lim:Int}:aK prog 202 #[aY,iv 0,iv 0,iv lim,.func (.func fn) #[] caps] w (λv z=>v=.tuple #[]/\z=w):=by
 refine aF func202 Z ?_;refine aM (λ_:Unit=>[(1,iv 0),(2,iv 0),(3,iv lim),(10,.bool true),(11,.bool true)]) (λ_ u=>w=u) (λ_ _=>0) () ⟨U,U,U,U,U,Yt⟩ U rfl ?_;rintro G _ u rfl;refine go ?_;refine cD (λq=>?_) λq=>Y;refine aJ ab4 ?_;rintro _ A ⟨rfl,rfl⟩;exact ret ⟨U,U⟩
theorem ab6:aK prog 101 #[aY,.func (.func fn) #[] caps] w (λv u=>v=.tuple #[]/\u=w):=by
 refine aF func101 Z<|an<|qP (n:=0) U Y<|aJ (vf (n:=0) Y) ?_;rintro _ _ ⟨⟨k,rfl⟩,rfl⟩;apply aJ ab5;rintro _ z ⟨rfl,rfl⟩;exact ret ⟨U,U⟩
theorem ab7:aK prog 391 #[aY,iv 0,iv 0,.func (.func fn) #[] caps] w (λv w'=>v=.tuple #[]/\w'=w):=by
 refine aF func391 Z<|go<|aM (λ_:Unit=>[(8,iv 1)]) (λ_ u=>w=u) (λ_ _=>0) () ⟨U,Yt⟩ U rfl ?_;exact LQ
theorem ab8{lim:Int}:aK prog 372 #[aY,iv 0,iv 0,iv lim,.func (.func fn) #[] caps] w (λv z=>v=.tuple #[]/\z=w):=by
 refine aF func372 Z ?_;refine aM (λ_:Unit=>[(1,iv 0),(2,iv 0),(3,iv lim),(10,.bool true),(11,.bool true)]) (λ_ u=>w=u) (λ_ _=>0) () ⟨U,U,U,U,U,Yt⟩ U rfl ?_;rintro G _ u rfl;refine go ?_;refine cD (λq=>?_) λq=>Y;refine aJ ab7 ?_;rintro _ A ⟨rfl,rfl⟩;exact ret ⟨U,U⟩
theorem ab9:aK prog 318 #[aY,.func (.func fn) #[] caps] w (λv u=>v=.tuple #[]/\u=w):=by
 refine aF func318 Z<|an<|qP (n:=0) U Y<|aJ (vf (n:=0) Y) ?_;rintro _ _ ⟨⟨k,rfl⟩,rfl⟩;apply aJ ab8;rintro _ z ⟨rfl,rfl⟩;exact ret ⟨U,U⟩
end
section
variable {α:Type} [Inhabited α] {enc:α->List Value} {K:Nat} {w:World} {g:Nat} {t:TypeId} {s:List α} {rest:List Value} {P:Program}
set_option maxRecDepth 100000 in
theorem aca{ρ:Ren}(L:SlLaysF0.n14 P ρ)(aE:∀w,(isAgg (ρ.t 24)).run P w=.ok true w)(zE:∀w,(Go.sizeOf (ρ.t 24)).run P w=.ok K w)(hK:∀x,(enc x).length=K)(h1:∀x,∀v∈enc x,v.oneCell'=true){cf:α->α->Int}(hO:SWO (ltOf cf))(eg:∀args w,(callFunc fn args).run P w=.ok (.enter fn args) w)(hc:Rl P enc cf fn caps g w){c lim:Nat}(hb:aP w g t (s.flatMap enc++rest))(hl:s.length<=1000000)(V:lim<4611686018427387904):aK P (ρ.f 14) #[aB (aL g) s.length c,iv 0,iv s.length,iv lim,.func (.func fn) #[] caps] w (λv w'=>v=.tuple #[]/\∃s':List α,s'.Perm s/\s'.Pairwise (λa b=>ltOf cf b a=false)/\aP w' g t (s'.flatMap enc++rest)/\aj (λb=>b≠g) w w'):=by
 intro w0 hw;subst hw;refine apg ?_;intro hlays;have hH:=Cb hK (w:=w0) hb;have O:=AnyQ.pdqsortCmpFunc_all L K aE zE enc cf fn caps hO g 0 c s.toArray w0 eg hlays ⟨hK,h1,hH,hb.lt⟩ (s.toArray.size+1) 0 s.toArray.size lim s.toArray w0 Y U (SWK.start hH) (atc _) (asN _) (by simp;omega) V (Or.inl U);have J:=pdq_sorts (ltOf cf) hO s.toArray 0 s.toArray.size lim true true (atc _) (asN _) (Or.inl U);rw[show s.toArray.size=s.length from auk ..] at O J;apply O.mono;rintro e w' ⟨rfl,m,os,rfl⟩;obtain⟨hp,hso⟩:=J;obtain⟨d',a6⟩:∃d',d'=pdq (ltOf cf) s.toArray 0 s.length lim true true:=⟨_,U⟩;rw[<-a6] at hp hso|-;exact aoz
end
theorem aqL(h1:n<4611686018427387904):aK prog 173 #[nV n] w (λv u=>v=iv (Go.Lib.bitLen n:Nat)/\u=w):=by
 intro w0 hw;subst hw;rw[avi];have h:=Any.bits_Len (SlLaysF0.n15.bits {Tryz.jsort with}) (n:Int) w0 Y Y;rw[ave] at h;apply h.mono;rintro e u ⟨rfl,rfl⟩;exact⟨_,U,U,U⟩
structure qA where
 cm:Cm
 aZ:Int
instance:Inhabited qA:=⟨⟨default,0⟩⟩
abbrev qA.c(x:qA):aW:=[.int .i64 x.cm.right,.int .i64 x.cm.aO,.int .i64 x.cm.aH,.int .i64 x.cm.aC,.int .i64 x.cm.cC,iv x.aZ]
def GO(a b:qA):Bool:=j7 a.cm b.cm
theorem GP:JV GO:=⟨λa=>BZ.irr a.cm,λ_ _ _ h1 u=>BZ.tr _ _ _ h1 u⟩
def cfF(x y:qA):Int:=NN x.cm.ti y.cm.ti
theorem R9(x y:qA):ltOf cfF x y=GO x y:=by
 unfold ltOf GO cfF j7;rw[auD];exact zX
theorem XM(x y z:Cm)(h1:j7 x y=false)(u:j7 y z=false):j7 x z=false:=by
 rw[atl,Ne,mU] at*;unfold tf Cm.ti at*;simp only at*;omega
theorem VR:SWO (ltOf cfF):=vg R9 GP λ_ _ _ h1 u=>XM _ _ _ h1 u
abbrev CF(a b:Od):Bool:=decide (a.aH<b.aH\/a.aH=b.aH/\a.index<b.index)
theorem CG:JV CF:=⟨λ_=>Yg,λ_ _ _ h1 u=>Yg⟩
instance:Inhabited Od:=⟨⟨0,0,0,false⟩⟩
def acb(x y:Od):Int:=if cx x.aH y.aH≠0 then cx x.aH y.aH else cx x.index y.index
theorem MH(x y:Od):ltOf acb x y=CF x y:=by
 unfold ltOf acb;have h1:=gA (a:=x.aH) (b:=y.aH);have z:=gA (a:=x.index) (b:=y.index);have u:=nN (a:=x.aH) (b:=y.aH);rw[auD];split<;>omega
theorem IU:SWO (ltOf acb):=vg MH CG λ_ _ _ h1 u=>Yg
def K9(x y:Od):Int:=if cx x.aH y.aH≠0 then cx x.aH y.aH else if cx (DP x.bP) (DP y.bP)≠0 then cx (DP x.bP) (DP y.bP) else if cx x.index y.index≠0 then cx x.index y.index else 0
theorem acd{a b:Bool}:DP a<DP b↔a=false/\b=true:=Yg
theorem ace{a b:Bool}:DP a=DP b↔a=b:=Yg
theorem La(x y:Od):ltOf K9 x y=qu x y:=by
 have B:((x.bP=false/\y.bP=true)\/x.bP=y.bP/\x.index<y.index)↔(DP x.bP<DP y.bP\/DP x.bP=DP y.bP/\x.index<y.index):=by rw[acd,ace]
 unfold ltOf K9 qu;have h1:=gA (a:=x.aH) (b:=y.aH);have M:=gA (a:=x.index) (b:=y.index);have J:=nN (a:=x.aH) (b:=y.aH);have A:=gA (a:=DP x.bP) (b:=DP y.bP);have z:=nN (a:=DP x.bP) (b:=DP y.bP);have u:=nN (a:=x.index) (b:=y.index);rw[auD,B];generalize DP x.bP=p at*;generalize DP y.bP=q at*;(repeat' split)<;>omega
theorem am8(x y z:Od)(h1:qu x y=false)(M:qu y z=false):qu x z=false:=by
 unfold qu at*;rw[asZ] at*;cases J:x.bP<;>cases A:y.bP<;>cases u:z.bP<;>simp only[J,A,u] at* <;>simp at* <;>omega
theorem VS:SWO (ltOf K9):=vg La Rk am8
def UF(x y:Cm):Int:=if cx x.cC y.cC≠0 then cx x.cC y.cC else if cx x.right y.right≠0 then cx x.right y.right else if cx x.aO y.aO≠0 then cx x.aO y.aO else if cx x.aH y.aH≠0 then cx x.aH y.aH else 0
theorem Sa(x y:Cm):ltOf UF x y=Ca x y:=by
 unfold ltOf UF Ca;refine ao7 ?_;intro h1 h2 h3 h4 h5 h6 h7 h8;rw[auD];(repeat' split)<;>omega
theorem VT:SWO (ltOf UF):=vg Sa XD λx y z h1 u=>by unfold Ca at*;rw[asZ] at*;omega
def UG(x y:Cm):Int:=if cx x.aH y.aH≠0 then cx x.aH y.aH else if cx x.cC y.cC≠0 then cx x.cC y.cC else if cx x.right y.right≠0 then cx x.right y.right else if cx x.aO y.aO≠0 then cx x.aO y.aO else 0
theorem Sb(x y:Cm):ltOf UG x y=j7 x y:=by
 unfold ltOf UG;refine ao7 ?_;intro h1 h2 h3 h4 h5 h6 h7 h8;rw[awA,asy,mU];unfold tf Cm.ti;simp only;(repeat' split)<;>omega
theorem VU:SWO (ltOf UG):=vg Sb BZ XM
def cfR(x y:Cm):Int:=if cx x.cC y.cC≠0 then cx x.cC y.cC else if cx x.right y.right≠0 then cx x.right y.right else cx x.aO y.aO
theorem Sc(x y:Cm):ltOf cfR x y=EZ x y:=by
 unfold ltOf cfR EZ;have M:=gA (a:=x.cC) (b:=y.cC);have J:=gA (a:=x.right) (b:=y.right);have A:=gA (a:=x.aO) (b:=y.aO);have z:=nN (a:=x.cC) (b:=y.cC);have u:=nN (a:=x.right) (b:=y.right);rw[auD];(repeat' split)<;>omega
theorem VV:SWO (ltOf cfR):=vg Sc RY λx y z h1 u=>by unfold EZ at*;rw[asZ] at*;omega
section
variable {w:World} {g n c:Nat} {t:TypeId} {rest:List Value}
theorem Sd{s:List qA}(hb:aP w g t (s.flatMap qA.c++rest))(X:n=s.length)(Y:n<=1000000)(hd:fT GO s):aK prog 318 #[aB (aL g) n c,.func (.func 319) #[] #[]] w (λv A=>v=.tuple #[]/\aP A g t ((il GO s).flatMap qA.c++rest)/\aj (λb=>b≠g) w A):=by
 subst X;obtain⟨i,hi,hs⟩:=(gu (P:=prog) (t:=390) (n:=6) Z).2;have aE:∀w,(isAgg 390).run prog w=.ok true w:=λw=>iF (P:=prog) (t:=390) (n:=6) Z w;have O:∀w,(Go.sizeOf 390).run prog w=.ok 6 w:=λw=>by have:=run_sizeOf (P:=prog) hi w;rw[hs] at this;exact this
 have h:=qv (enc:=qA.c) (K:=6) Tryz.fsort aE O (λ_=>rfl) (λx v M=>by simp only[asM,ats,aur] at M;rcases M with rfl|rfl|rfl|rfl|rfl|rfl<;>rfl) VR (fn:=319) (caps:=#[]) (avn func319 Z U) (λu _ x y=>Vj x.cm.right x.cm.aO x.cm.aH x.cm.aC x.cm.cC x.aZ y.cm.right y.cm.aO y.cm.aH y.cm.aC y.cm.cC y.aZ _ (λW=>abG x.cm.right x.cm.aO x.cm.aH x.cm.aC x.cm.cC y.cm.right y.cm.aO y.cm.aH y.cm.aC y.cm.cC W) u) (c:=c) hb Y;apply aK.mono h;rintro v A ⟨rfl,s',V,J,z,k⟩;rw[uR GP R9 V hd J] at z;exact⟨U,z,k⟩
theorem Se(hb:aP w g t (s.flatMap Od.c++rest))(hn:n=s.length)(hl:n<=1000000)(hd:fT CF s):aK prog 89 #[aB (aL g) n c,.func (.func 91) #[] #[]] w (λv w'=>v=.tuple #[]/\aP w' g t ((il CF s).flatMap Od.c++rest)/\aj (λb=>b≠g) w w'):=by
 subst hn;refine adF ?_;intro i hi hs aE zE;have h:=qv (enc:=Od.c) (K:=4) Tryz.osort aE zE (λ_=>rfl) (λx v hv=>by simp only[asM,ats,aur] at hv;rcases hv with rfl|rfl|rfl|rfl<;>rfl) IU (fn:=91) (caps:=#[]) (avn func91 Z U) (λu _ x y=>abF x.aH x.index x.aC y.aH y.index y.aC x.bP y.bP u) (c:=c) hb hl;exact Ye
theorem Sf(hb:aP w g t (s.flatMap Od.c++rest))(hn:n=s.length)(hl:n<=1000000)(hd:fT CF s):aK prog 89 #[aB (aL g) n c,.func (.func 367) #[] #[]] w (λv w'=>v=.tuple #[]/\aP w' g t ((il CF s).flatMap Od.c++rest)/\aj (λb=>b≠g) w w'):=by
 subst hn;refine adF ?_;intro i hi hs aE zE;have h:=qv (enc:=Od.c) (K:=4) Tryz.osort aE zE (λ_=>rfl) (λx v hv=>by simp only[asM,ats,aur] at hv;rcases hv with rfl|rfl|rfl|rfl<;>rfl) IU (fn:=367) (caps:=#[]) (avn func367 Z U) (λu _ x y=>Vi x.aH x.index x.aC y.aH y.index y.aC x.bP y.bP u) (c:=c) hb hl;exact Ye
structure CH (w:World) (b:Nat) (tb tk:TypeId) (ks:aW) (g:Nat):Prop where
 ex:∃gk,aP w b tb [.slice (some (ad gk 0)) ks.length ks.length]/\aP w gk tk ks/\b≠g/\gk≠g
theorem kK(x y:Int)(W:World):Calls prog 93 #[.int .i64 x,.int .i64 y] W λe z=>e=.returned (.int .i64 (cx x y))/\∃q u,z=grow (W.drewN q) u:=(eI x y W).mono λ_ _ ⟨h1,A⟩=>⟨h1,0,#[],by rw[A];exact(grow_empty W).symm⟩
theorem Sg{s:List Cm}(hk:CH w b tb tk [.func (.func 81) #[] #[],.func (.func 82) #[] #[],.func (.func 83) #[] #[],.func (.func 84) #[] #[]] g)(hb:aP w g t (s.flatMap bM++rest))(hn:n=s.length)(hl:n<=1000000)(hd:fT j7 s):aK prog 79 #[aB (aL g) n c,.func (.func 174) #[] #[ptr b]] w (λv w'=>v=.tuple #[]/\aP w' g t ((il j7 s).flatMap bM++rest)/\aj (λb=>b≠g) w w'):=by
 subst hn;refine adG ?_;intro i hi hs aE zE;have hc:Rl prog bM UG 174 #[ptr b] g w:=by intro u hu x y;obtain⟨gk,hb1,hb2,n1,n2⟩:=hk.ex;have q1:=hb1.ah hu n1;have q2:=hb2.ah hu n2;have l1:=q1.lt;have l2:=q2.lt;have f1:u.cell? ⟨b,0,none⟩=some (aB (some ⟨gk,0,none⟩) 4 4):=q1.ai U;exact abH x.right x.aO x.aH x.aC x.cC y.right y.aO y.aH y.aC y.cC _ _ _ _ (UG x y) (λW=>kK _ _ W) (λW=>kK _ _ W) (λW=>kK _ _ W) (λW=>kK _ _ W) (λa=>by unfold UG;rw[asp a]) (λa a2=>by unfold UG;rw[aso (by simp[a]),asp a2]) (λa a2 a3=>by unfold UG;rw[aso (by simp[a]),aso (by simp[a2]),asp a3]) (λa a2 a3 a4=>by unfold UG;rw[aso (by simp[a]),aso (by simp[a2]),aso (by simp[a3]),asp a4]) (λa a2 a3 a4=>by unfold UG;rw[aso (by simp[a]),aso (by simp[a2]),aso (by simp[a3]),aso (by simp[a4])]) b gk u f1 (λj v hv=>q2.ai hv) l1 l2
 have h:=qv (enc:=bM) (K:=5) Tryz.jsort aE zE (λ_=>rfl) (λx v hv=>by simp only[asM,ats,aur] at hv;rcases hv with rfl|rfl|rfl|rfl|rfl<;>rfl) VU (fn:=174) (caps:=#[ptr b]) (avn func174 Z U) hc (c:=c) hb hl;apply aK.mono h;rintro v w' ⟨rfl,s',hp,hs',hb',k⟩;rw[uR BZ Sb hp hd hs'] at hb';exact⟨U,hb',k⟩
theorem Sh{s:List Cm}(hk:CH w b tb tk [.func (.func 82) #[] #[],.func (.func 83) #[] #[],.func (.func 84) #[] #[],.func (.func 81) #[] #[]] g)(hb:aP w g t (s.flatMap bM++rest))(hn:n=s.length)(hl:n<=1000000)(hd:fT Ca s):aK prog 79 #[aB (aL g) n c,.func (.func 174) #[] #[ptr b]] w (λv w'=>v=.tuple #[]/\aP w' g t ((il Ca s).flatMap bM++rest)/\aj (λb=>b≠g) w w'):=by
 subst hn;refine adG ?_;intro i hi hs aE zE;have hc:Rl prog bM UF 174 #[ptr b] g w:=by intro u hu x y;obtain⟨gk,hb1,hb2,n1,n2⟩:=hk.ex;have q1:=hb1.ah hu n1;have q2:=hb2.ah hu n2;have l1:=q1.lt;have l2:=q2.lt;have f1:u.cell? ⟨b,0,none⟩=some (aB (some ⟨gk,0,none⟩) 4 4):=q1.ai U;exact abI x.right x.aO x.aH x.aC x.cC y.right y.aO y.aH y.aC y.cC _ _ _ _ (UF x y) (λW=>kK _ _ W) (λW=>kK _ _ W) (λW=>kK _ _ W) (λW=>kK _ _ W) (λa=>by unfold UF;rw[asp a]) (λa a2=>by unfold UF;rw[aso (by simp[a]),asp a2]) (λa a2 a3=>by unfold UF;rw[aso (by simp[a]),aso (by simp[a2]),asp a3]) (λa a2 a3 a4=>by unfold UF;rw[aso (by simp[a]),aso (by simp[a2]),aso (by simp[a3]),asp a4]) (λa a2 a3 a4=>by unfold UF;rw[aso (by simp[a]),aso (by simp[a2]),aso (by simp[a3]),aso (by simp[a4])]) b gk u f1 (λj v hv=>q2.ai hv) l1 l2
 have h:=qv (enc:=bM) (K:=5) Tryz.jsort aE zE (λ_=>rfl) (λx v hv=>by simp only[asM,ats,aur] at hv;rcases hv with rfl|rfl|rfl|rfl|rfl<;>rfl) VT (fn:=174) (caps:=#[ptr b]) (avn func174 Z U) hc (c:=c) hb hl;apply aK.mono h;rintro v w' ⟨rfl,s',hp,hs',hb',k⟩;rw[uR XD Sa hp hd hs'] at hb';exact⟨U,hb',k⟩
theorem Si(hk:CH w b tb tk [.func (.func 180) #[] #[],.func (.func 181) #[] #[],.func (.func 182) #[] #[]] g)(hb:aP w g t (s.flatMap Od.c++rest))(hn:n=s.length)(hl:n<=1000000)(hd:fT qu s):aK prog 89 #[aB (aL g) n c,.func (.func 265) #[] #[ptr b]] w (λv w'=>v=.tuple #[]/\aP w' g t ((il qu s).flatMap Od.c++rest)/\aj (λb=>b≠g) w w'):=by
 subst hn;refine adF ?_;intro i hi hs aE zE;have hc:Rl prog Od.c K9 265 #[ptr b] g w:=by intro u hu x y;obtain⟨gk,hb1,hb2,n1,n2⟩:=hk.ex;have q1:=hb1.ah hu n1;have q2:=hb2.ah hu n2;have l1:=q1.lt;have l2:=q2.lt;have f1:u.cell? ⟨b,0,none⟩=some (aB (some ⟨gk,0,none⟩) 3 3):=q1.ai U;exact Rp x.aH x.index x.aC y.aH y.index y.aC x.bP y.bP _ _ _ (K9 x y) (λW=>kK _ _ W) (λW=>kK _ _ W) (λW=>kK _ _ W) (λa=>by unfold K9;rw[asp a]) (λa a2=>by unfold K9;rw[aso (by simp[a]),asp a2]) (λa a2 a3=>by unfold K9;rw[aso (by simp[a]),aso (by simp[a2]),asp a3]) (λa a2 a3=>by unfold K9;rw[aso (by simp[a]),aso (by simp[a2]),aso (by simp[a3])]) b gk u f1 (λj v hv=>q2.ai hv) l1 l2
 have h:=qv (enc:=Od.c) (K:=4) Tryz.osort aE zE (λ_=>rfl) (λx v hv=>by simp only[asM,ats,aur] at hv;rcases hv with rfl|rfl|rfl|rfl<;>rfl) VS (fn:=265) (caps:=#[ptr b]) (avn func265 Z U) hc (c:=c) hb hl;apply aK.mono h;rintro v w' ⟨rfl,s',hp,hs',hb',k⟩;rw[uR Rk La hp hd hs'] at hb';exact⟨U,hb',k⟩
theorem Sj{s:List Cm}(hb:aP w g t (s.flatMap bM++rest))(hn:n=s.length)(hl:n<=1000000)(hd:fT EZ s):aK prog 327 #[aB (aL g) n c,.func (.func 328) #[] #[]] w (λv w'=>v=.tuple #[]/\aP w' g t ((il EZ s).flatMap bM++rest)/\aj (λb=>b≠g) w w'):=by
 have O:=hn;subst hn;refine adG ?_;intro i hi hs aE zE;have J:Go.Lib.bitLen s.length<4611686018427387904:=avw (Lib.bitLen_le s.length 62 Y Y) Y;have h:=aca (enc:=bM) (K:=5) {Tryz.jsort with} aE zE (λ_=>rfl) (λx v hv=>by simp only[asM,ats,aur] at hv;rcases hv with rfl|rfl|rfl|rfl|rfl<;>rfl) VV (fn:=328) (caps:=#[]) (avn func328 Z U) (λu _ x y=>Vh x.right x.aO x.aH x.aC x.cC y.right y.aO y.aH y.aC y.cC u) (c:=c) (lim:=Go.Lib.bitLen s.length) hb hl J;change aK prog 172 _ _ _ at h;refine aF func327 Z<|an<|qP (n:=s.length) U Y<|aJ (aqL Y) ?_;rintro _ _ ⟨rfl,rfl⟩;apply aJ h;rintro _ w' ⟨rfl,s',hp,hs',hb',k⟩;rw[uR RY Sc hp hd hs'] at hb';exact ret ⟨U,hb',k⟩
end
end
section
open Classical
def VW(q:Int×Int):Option gW->Option Int
 |some x=>if 0<=q.1/\x.kind=1/\x.aO=q.2 then some x.aC else none
 |none=>none
theorem Lb(l:List gW)(q:Int×Int):uU l q=VW q (l[q.1.toNat]?):=by unfold uU VW;rfl
theorem E1{q:Int×Int}{x:gW}:VW q (some x)=if 0<=q.1/\x.kind=1/\x.aO=q.2 then some x.aC else none:=rfl
theorem IV{q:Int×Int}(h:¬0<=q.1)(o:Option gW):VW q o=none:=by
 cases o with
 |none=>rfl
 |some x=>rw[E1,aso λe=>h e.1]
theorem IW{l:List gW}{k:Nat}{y:gW}(M:l[k]? =some y):vz (uU (l.take (k+1)))=if y.kind=1 then dZ (vz (uU (l.take k))) ((k:Int),y.aO) (iv y.aC) else vz (uU (l.take k)):=by
 have hk:=(asr.1 M).1;have e:∀q:Int×Int,uU (l.take (k+1)) q=if q.1=k then(if y.kind=1/\y.aO=q.2 then some y.aC else none) else uU (l.take k) q:=λq=>by
  rw[Lb,Lb];by_cases h:q.1=k
  .rw[asp h,show q.1.toNat=k from Y,aty,asp Y,M,E1];by_cases u:y.kind=1/\y.aO=q.2
   .rw[asp u,asp ⟨Y,u⟩]
   .rw[aso u,aso λJ=>u J.2]
  .rw[aso h];by_cases O:0<=q.1
   .rw[aty,aty];by_cases u:q.1.toNat<k
    .rw[asp Y,asp u]
    .rw[aso Y,aso u]
   .rw[IV O,IV O]
 have z:∀q:Int×Int,q.1=k->uU (l.take k) q=none:=λq h=>by rw[Lb,show q.1.toNat=k from Y,aty,aso Y];rfl
 funext q;show Option.map iv (uU (l.take (k+1)) q)=_;rw[e];by_cases h:q.1=k
 .rw[asp h];by_cases h1:y.kind=1
  .rw[asp h1];unfold dZ;by_cases u:y.aO=q.2
   .rw[asp ⟨h1,u⟩,asp (Prod.ext h u.symm)];rfl
   .rw[aso λJ=>u J.2,aso λJ=>u (by rw[J])];show _=Option.map iv (uU (l.take k) q);rw[z q h]
  .rw[aso λJ=>h1 J.1,aso h1];show _=Option.map iv (uU (l.take k) q);rw[z q h]
 .rw[aso h];split
  .unfold dZ;rw[aso λJ=>h (by rw[J])];rfl
  .rfl
section
variable {D:Nat->Prop} {w:World} {A:Option Addr} {n c:Nat}
theorem OK:aK prog 194 #[] w (λv w'=>∃g f,v=.map (some g)/\w.heap.size<=g/\ax w w'/\dw fY w' g f/\f 1=some (.func (.func 269) #[] #[])/\f 2=some (.func (.func 270) #[] #[])/\f 3=some (.func (.func 271) #[] #[])):=by
 refine aF func194 Z<|qV λg w1 hg hw1=>?_;refine Zw ?_;intro x1 M1 lg;refine kV (kv:=fY) (1:Int) (v:=.func (.func 269) #[] #[]) M1 λw2 M2 k2 s2=>kV (kv:=fY) (2:Int) (v:=.func (.func 270) #[] #[]) M2 λw3 J k3 s3=>kV (kv:=fY) (3:Int) (v:=.func (.func 271) #[] #[]) J λw4 M4 k4 s4=>aQ _ U ⟨g,_,U,Y,((x1.ag k2 λb hb _=>Y).ag k3 λb hb _=>Y).ag k4 λb hb _=>Y,M4,?_,?_,?_⟩
 .unfold dZ;rw[aso Yd,aso Yd,asp U]
 .unfold dZ;rw[aso Yd,asp U]
 .unfold dZ;rw[asp U]
end
theorem yp{b:BK}{l:List dz}{x:dz}:rX b (l++[x])=yf (rX b l) x:=by unfold rX;rw[aud];rfl
section
variable {D:Nat->Prop} {w:World} {A:Option Addr} {n c:Nat}
set_option maxRecDepth 8000 in
set_option maxHeartbeats 2000000 in
theorem Ld{bT:aW}{d:aU}{zs:List qY}(hd:iG D w bT d)(h0:cH d=0)(hb:aP w b 32 [aB A n c])(ho:bu w0 w A n c 87 9 (zs.flatMap eY))(hz:∀z∈zs,uW d z.d/\KW D w z)(hn:zs.length<=12):aK prog 99 #[.agg bT.toArray,.func (.func 274) #[] #[ptr b]] w (λv w'=>∃g E ne ce,v=.tuple #[.map (some g),aB E ne ce]/\ax w w'/\w.heap.size<=g/\fL dE w' g (vz (rX (uU d.bn) (zs.map qY.d)))):=by
 have hd0:=hd.ar (D':=λb=>b<w.heap.size) λb h _=>h;have ct:∀z∈zs,uW d z.d/\KW (λb=>b<w.heap.size) w z:=λz h=>⟨(hz z h).1,(hz z h).2.1.ar Yd λb h _=>h,(hz z h).2.2⟩;obtain⟨A1,n1,c1,A2,n2,c2,A3,n3,c3,A4,n4,c4,A5,n5,c5,A6,n6,c6,rfl,-,-,-,av,-⟩:=hd0.ex;have ec:=av.an;have eb:=av.le;have cK:=ho.own.an;rw[bz (K:=9) λ_=>rfl] at cK;have hbl:=hb.lt;apply aF func99 Z;refine box λb2 w1 h1=>?_;refine alloc λb4 w2 h2=>?_;refine alloc λb5 w3 h3=>?_;refine qV λg w4 hg bx=>?_;have x4:ax w3 w4:=by rw[bx];exact aj.alloc _ _ _
 have M4:fL dE w4 g (vz (uU (d.bn.take 0))):=by
  have e:vz (uU (d.bn.take 0))=λ_=>none:=by funext q;unfold vz uU;rw[atg];rfl
  rw[e,bx,hg];exact fL.new dE w3
 have e2:=h1.au;have e4:=h2.au;have e5:=h3.au;have s1:=h1.size;have s2:=h2.size;have s3:=h3.size;have lg:=M4.g.lt;refine st1 (h2.aS.ae (h3.ae.trans x4)) U λw5 B4 k5=>?_;have ck:=((h1.ae.trans h2.ae).trans h3.ae).trans x4;have x05:ax w w5:=ck.ag k5 λb hb _=>Y;have B2:aP w5 b2 31 [.string d.name,iv d.aG,iv d.cap,iv d.bH,aB A1 n1 c1,aB A2 n2 c2,aB A3 n3 c3,aB A4 n4 c4,aB A5 n5 c5,aB A6 n6 c6]:=(h1.aS.ae ((h2.ae.trans h3.ae).trans x4)).ah k5 Y;have B5:aP w5 b5 37 [aY]:=(h3.aS.ae x4).ah k5 Y;have M5:=M4.ah k5 Y;have s5:=k5.size;refine go ?_;refine aM (λk:Nat=>[(16,iv (k:Int))]) (λk u=>k<=n4/\aj (λx=>x≠g) w5 u/\fL dE u g (vz (uU (d.bn.take k)))) (λk _=>n4-k) 0 ⟨U,Yt⟩ ⟨Y,.refl _ _,M5⟩ U ?_;rintro G k u ⟨hk,ku,Mu⟩;have xu:ax w u:=x05.ag ku λb hb _=>Y;refine cD (λhlt=>?_) λhge=>?_
 .obtain⟨bb,oo,cs,y,rfl,hy,-,-,hcc,rfl⟩:=(av.ae xu).au (show k<n4 from Y);refine Py ?_;intro b7 u1 a1 u2 B7 k2 z2;have B7:aP u2 b7 171 y.c:=B7;have e7:=a1.au;have xu2:ax u u2:=a1.ae.ag k2 λb hb _ e=>Y;have ku2:aj (λx=>x≠g) w5 u2:=ku.trans (ax.any xu2);have c8:=Mu.ah xu2 Yt;refine go ?_;refine cE (λq=>?_) λq=>?_
  .refine ld (.map (some g)) ((B4.ah ku2 Y).ai U) ?_;refine go ?_;refine hY [iv (k:Int),iv y.aO] Z ?_;refine go ?_;refine BX (kv:=dE) ((k:Int),y.aO) (v:=iv y.aC) c8 λu3 M3 k3 s3=>?_;refine go ?_;refine next (k+1) ⟨Yn,Yt⟩ ⟨Y,ku2.trans k3,by rw[IW hy,asp q];exact M3⟩ Y
  .refine go ?_;refine next (k+1) ⟨Yn,Yt⟩ ⟨Y,ku2,by rw[IW hy,aso q];exact c8⟩ Y
 rw[asx Y] at Mu;have B4:=B4.ah ku Y;have B5:=B5.ah ku Y;have su:=ku.size;have ef:=Mu.g.lt;refine aJ OK ?_;rintro _ w6 ⟨gk,fk,rfl,df,x6,Mk,f1,f2,f3⟩;refine alloc λb8 w7 h7=>?_;refine st1 h7.aS U λw8 B8 k8=>?_;have B8:aP w8 b8 341 [.map (some gk)]:=B8;have e8:=h7.au;have eg:=Mk.lt;have s6:=x6.size;have s7:=h7.size;have s8:=k8.size;have bp:ax w6 w8:=h7.ae.ag k8 λb hb _=>Y;have af:=x6.trans bp;have br:=xu.trans af;obtain⟨B4,B5⟩:=zQ af B4 B5;have Mu:=Mu.ah af Yt;have Mk:=Mk.ah bp Yt;have cS:=hb.ae br;have eh:=B8.lt;refine range (gf:=274) (lb:=#[ptr b]) U λfn tmps w9 R hR hF cw x9 z9 bI cL=>?_;show aK _ _ #[.func (.yield (w8.heap.size+1)) #[] #[],ptr b] w9 _;have bq:=br.trans x9;have s9:=x9.size;obtain⟨B4,B5,B8⟩:=P9 x9 B4 B5 B8;have Mu:=Mu.ah x9 Yt;have Mk:=Mk.ah x9 Yt;have bG:gk≠g:=Y;refine(RQ (zs:=zs) (D:=λx=>x<w.heap.size) (λk u=>aj (λx=>x≠g/\x≠b5/\x≠w8.heap.size+1) w9 u/\dc u (w8.heap.size+1) R/\fL dE u g (vz (rX (uU d.bn) ((zs.map qY.d).take k)))/\∃(E:bZ) (ne ce:Nat) (lE:aX),ne<=k/\lE.length=ne/\aP u b5 37 [aB E ne ce]/\(∀gg,E=aL gg->w9.heap.size<=gg)/\bu w u E ne ce 3 1 (cJ lE)) (λk u u' ⟨k7,l7,M7,E,ne,ce,lE,h1,h2,q8,hE,own⟩ xx=>⟨k7.trans (ax.any xx),l7.ah xx Yt,M7.ah xx Yt,E,ne,ce,lE,h1,h2,q8.ae xx,hE,own.ag xx⟩) ?_ (λgg O=>?_) (cS.ae x9) (.inr ⟨w0,ho.ag bq⟩) ⟨.refl _ _,cL,Mu,none,0,0,[],Y,U,B5,λ_ h=>(by cases h),bu.nil bq⟩).mono ?_
 .rintro k z u aq ⟨k7,l7,M7,E,ne,ce,lE,hne,hlE,q8,hE,own⟩;subst hR;have hk:=(asr.1 aq).1;obtain⟨hdo,bE⟩:=ct z (asq aq);have htk:(zs.map qY.d).take (k+1)=(zs.map qY.d).take k++[z.d]:=by rw[asD,as6,aq];rfl
  obtain⟨bk,hbk⟩:∃bk,bk=rX (uU d.bn) ((zs.map qY.d).take k):=⟨_,U⟩;have Bk:kI d bk:=by rw[hbk];refine(RE h0).rX λx hx=>?_;obtain⟨y,hy,rfl⟩:=asS.1 (asW hx);exact(hz y hy).1
  rw[<-hbk] at M7;have cg:=own.ae;refine dQ (args:=[.agg (eY z).toArray]) l7 U rfl hF cw ?_;refine alloc λb9 u1 a1=>?_;refine fg a1.aS λu2 B9 k2 z2=>?_;have B9:aP u2 b9 87 (eY z):=B9;have e9:=a1.au;have xu2:ax u u2:=a1.ae.ag k2 λb hb _ e=>Y;refine tN (l7.ah xu2 Yt) λu3 k3 _ l3=>?_;have dy:=k7.size;have ej:g<w8.heap.size:=Y;have cr:aj (λb=>b≠w8.heap.size+1) u u3:=(ax.any xu2).trans k3;have B9:=B9.ah k3 Y;refine go ?_;refine hY [iv z.d.right,iv z.d.dq] Z ?_;refine alloc λb10 u4 a4=>?_;refine fg a4.aS λu5 B10 cp z5=>?_;have B10:aP u5 b10 223 [iv z.d.right,iv z.d.dq]:=B10;have ep:=a4.au;have ak:ax u3 u5:=a4.ae.ag cp λb hb _ e=>Y;have k25:aj (λb=>b≠w8.heap.size+1) u u5:=cr.trans (ax.any ak);have a6:=k7.ag k25 λ_ _ h=>h.2.2;have B9:=B9.ae ak;have B4u:=B4.ah a6 ⟨Y,Y,Y⟩;have dd:=B8.ah a6 ⟨Y,Y,Y⟩;have db:=Mk.ah a6 ⟨bG,Y,Y⟩;have bt:=q8.ah k25 Y;have be:=M7.ah k25 Y;have l5:=l3.ah ak Yt;have bg:ax w u5:=cg.ag k25 λb hb _=>Y;have aa:=own.bY k25 (λgg hg=>by have:=hE gg hg;omega) bg;have bw:aj (λx=>x<w.heap.size) u u5:=k25.cU λ_ _ h=>Y;refine go ?_;obtain⟨V,hV⟩:∃V,V=ml bk (z.d.right,z.d.dq):=⟨_,U⟩;have cT:0<=V/\V<=1073741824:=by rw[hV];exact⟨Bk.pos _,Bk.le _⟩
  refine dh (kv:=dE) (z.d.right,z.d.dq) (iv V) (λy hy=>by subst hy;exact⟨_,be.g,by rw[wG,hV]⟩) ?_;refine cE (λq0=>?_) λq0=>?_
  .have he:yf bk z.d=bk:=by unfold yf;rw[<-hV,asp q0]
   refine go ?_;refine lit [iv z.d.no] λg1 u6 hq=>?_;refine iI (n:=ne) (m:=1) (aa.ag hq.ae) (hq.src (sz:=1) U) Y λE2 ce2 u7 o7 k7' hA=>?_;have dx:w9.heap.size<=u6.heap.size:=atI a6.size hq.ae.size;have ay:∀gg,E2=aL gg->w9.heap.size<=gg:=λgg hg=>Yg;have q86:=bt.ae hq.ae;have q87:=q86.ah k7' (λe2=>by have:=hE _ e2;omega);refine st1 q87 U λu8 q88 k8'=>?_;have a8:aj (λb=>E≠aL b) u5 u7:=(ax.any hq.ae).trans k7';have M8:=(be.ah a8 λe2=>by have:=hE _ e2;omega).ah k8' Y;have l8:=(l5.ah a8 λe2=>by have:=hE _ e2;omega).ah k8' Y;refine eQ _ l8 λu9 k9 l9=>?_;have o8:=o7.bY k8' (λgg hg=>by have:=ay gg hg;omega) (o7.ae.ag k8' λb hb _=>Y);have o9:=o8.bY k9 (λgg hg=>by have:=ay gg hg;omega) (o8.ae.ag k9 λb hb _=>Y);refine⟨U,⟨((a6.ag a8 λb hb _ e2=>by have:=hE _ e2;omega).ag k8' λ_ _ h=>h.2.1).ag k9 λ_ _ h=>h.2.2,l9,?_,E2,ne+1,ce2,lE++[z.d.no],Y,by rw[asu,hlE];rfl,q88.ah k9 Y,ay,?_⟩,((bw.ag a8 λb hb h e2=>by have:=hE _ e2;omega).ag k8' λ_ _ h=>Y).ag k9 λ_ _ h=>Y⟩
   .rw[htk,yp,<-hbk,he];exact M8.ah k9 Y
   .unfold cJ at o9|-;rw[asK];exact o9
  .refine go<|XJ (kv:=dE) (z.d.right,z.d.dq) be λu6 M6 k6 dO=>?_;rw[VI] at M6;obtain⟨Bd,td⟩:=Bk.del (r:=z.d.right) hdo.2.1;have tb:=Bk.rf z.d.right;rw[<-hV] at td;have eL:=dd.ah k6 Y;have ew:=B9.ah k6 Y;have eS:=B4u.ah k6 Y;have et:=db.ah k6 bG;have k76:=a6.ag k6 λ_ _ h=>h.1;have l6:=l5.ah k6 Y;have q86:=bt.ah k6 Y;have own6:=aa.bY k6 (λgg hg=>Yg) (bg.ag k6 λb hb _=>Y);have kc6:=bw.ag k6 λ_ _ h=>Y;have bA:bS DR (λb=>b<w.heap.size) u6 z.A z.n z.d.parts:=bE.1.ah (D':=λ_=>True) own6.ae λb _ _=>Yt;rcases hdo.2.2 with⟨hk1,ei⟩|⟨hk2,hw⟩|hk3
   .have he:yf bk z.d=nK (mn bk (z.d.right,z.d.dq)) (z.d.right,z.d.to) V:=by unfold yf;rw[<-hV,aso q0,asp hk1]
    refine go ?_;rw[hk1];refine dh (kv:=fY) (1:Int) (.func (.func 269) #[] #[]) (λy hy=>Yg)<|go ?_;have eo:0<=ml (mn bk (z.d.right,z.d.dq)) (z.d.right,z.d.to)/\ml (mn bk (z.d.right,z.d.dq)) (z.d.right,z.d.to)<=1073741824:=⟨Bd.pos _,Bd.le _⟩;refine aJ (RS M6 Y) ?_;exact aof
   .have he:yf bk z.d=Oy (mn bk (z.d.right,z.d.dq)) z.d V:=by unfold yf;rw[<-hV,aso q0,aso Y,asp hk2]
    refine go ?_;rw[hk2];refine dh (kv:=fY) (2:Int) (.func (.func 270) #[] #[]) (λy hy=>Yg)<|go<|aJ (OH M6 bA bE.2 (λy hy=>Y) hw Bd cT.1 hdo.1 Y) ?_;exact aof
   .have he:yf bk z.d=mn bk (z.d.right,z.d.dq):=by unfold yf;rw[<-hV,aso q0,aso Y,aso Y]
    refine go ?_;rw[hk3];refine dh (kv:=fY) (3:Int) (.func (.func 271) #[] #[]) (λy hy=>Yg)<|go<|bW OG λu7 bo=>?_;have k7':aj (λb=>b≠g) u6 u7:=ax.any bo;have M7':=M6.ah bo Yt;refine ao3 ?_;intro k77 l7' q87 own7 kc7;refine eQ _ l7' λu9 k9 l9=>⟨U,⟨k77.ag k9 λ_ _ h=>h.2.2,l9,?_,E,ne,ce,lE,Y,hlE,q87.ah k9 Y,hE,?_⟩,kc7.ag k9 λ_ _ h=>Y⟩
    .rw[htk,yp,<-hbk,he];exact M7'.ah k9 Y
    .exact own7.bY k9 (λgg hg=>by have:=hE gg hg;omega) (own7.ae.ag k9 λb hb _=>Y)
 .rcases ho.form with⟨e,-⟩|⟨g2,e,-,hlt,-⟩
  .rw[e] at O;cases O
  .rw[e] at O;injection O with O;injection O with O;omega
 .rintro v u ⟨k7,l7,M7,E,ne,ce,lE,hne,hlE,q8,hE,own⟩;subst hR;refine dL _ l7 (by simp) λu6 k6=>?_;have k76:=k7.ag k6 λ_ _ h=>h.2.2;have q86:=q8.ah k6 Y;have own6:=own.bY k6 (λgg hg=>Yg) (own.ae.ag k6 λb hb _=>Y);have M6:=M7.ah k6 Y;rw[asx Yg] at M6;have cb:=B4.ah k76 ⟨Y,Y,Y⟩;refine go ?_;rcases own6.form with⟨hA,cI,hc0⟩|⟨gg,rfl,hg0,hgl,hnc⟩
  .subst hA;subst cI;subst hc0;refine aJ RU ?_;rintro _ u7 ⟨rfl,rfl⟩;have k77:aj (λx=>(x≠b4/\x≠b5)/\x≠g/\x≠w8.heap.size+1) w9 u7:=k76.cU λ_ _ h=>⟨h.2.1,h.1.2,h.2.2⟩;have a7:=cb;have q87:=q86;have b0:=M6;have xw7:=own6.ae;refine bR (oP [2,3] [] [0,1,2,3]) [] (λy=>y.cell? (ad b4 0)=some (.map (some g))/\y.cell? (ad b5 0)=some (aY)) mx Z ⟨a7.ai U,q87.ai U⟩<|pb _ (λy hy=>hy.1)<|pb (aY) (λy hy=>hy.2)<|st1 a7 U λu8 B48 k8'=>?_;refine Zy ?_;intro q88 u9 q89 k9 B49;have hD:u9.heap[w8.heap.size]? =some (.deferred (some [])):=((k77.ag k8' λb hb h=>h.1.1).ag k9 (λb hb h=>h.1.2) |>.aS _ Y ⟨⟨Y,Y⟩,Y,Y⟩).trans bI;refine oN hD ?_;have J:=aj.putObj u9 w8.heap.size (.deferred none);refine da _ (bj ((B49.ah J Y).ai U))<|da _ (bj ((q89.ah J Y).ai U))<|⟨g,none,0,0,U,((xw7.ag k8' λb hb _=>Y).ag k9 λb hb _=>Y).ag J λb hb _=>Y,Y,((b0.ah k8' Y).ah k9 Y).ah J Y⟩
  .obtain⟨rest,hbk,dp,-⟩:=jH.aS own6.own;refine aJ (VL hbk Y Y) ?_;rintro _ u7 ⟨rfl,l',en,hb7,k7'⟩;have O:=hE gg U;have k77:aj (λx=>(x≠b4/\x≠b5)/\x≠g/\x≠w8.heap.size+1) w9 u7:=(k76.ag k7' λb hb _=>Y).cU λ_ _ h=>⟨h.2.1,h.1.2,h.2.2⟩;have a7:=cb.ah k7' Y;have q87:=q86.ah k7' Y;have b0:=M6.ah k7' Y;have xw7:=own6.ae.ag k7' λb hb _=>Y;refine bR (oP [2,3] [] [0,1,2,3]) [] (λy=>y.cell? (ad b4 0)=some (.map (some g))/\y.cell? (ad b5 0)=some (aB (aL gg) ne ce)) mx Z ⟨a7.ai U,q87.ai U⟩<|pb _ (λy hy=>hy.1)<|pb _ (λy hy=>hy.2)<|st1 a7 U λu8 B48 k8'=>?_;refine Zy ?_;intro q88 u9 q89 k9 B49;have hD:=((k77.ag k8' λb hb h=>h.1.1).ag k9 (λb hb h=>h.1.2) |>.aS _ Y ⟨⟨Y,Y⟩,Y,Y⟩).trans bI;refine oN hD ?_;have J:=aj.putObj u9 w8.heap.size (.deferred none);refine da _ (bj ((B49.ah J Y).ai U))<|da _ (bj ((q89.ah J Y).ai U))<|⟨g,aL gg,ne,ce,U,((xw7.ag k8' λb hb _=>Y).ag k9 λb hb _=>Y).ag J λb hb _=>Y,Y,((b0.ah k8' Y).ah k9 Y).ah J Y⟩
end
structure qZ where
 nX:Int
 first:Int
 fin:Int
abbrev qZ.c(x:qZ):aW:=[iv x.nX,iv x.first,iv x.fin]
def acf:Ty qZ:=JS 3 qZ.c λ_=>rfl
def oW(d:aU)(aN:Int)(xs:List r9)(i:Nat)(x:BD):qZ:=⟨i,x.due,match fM aN xs i with|some a=>min a d.aG|none=>d.aG⟩
structure si {α:Type} (enc:α->aW) (e:TypeId) (sz:Nat) (w0 u:World) (g:Nat) (f:Int->List α) (S:Int->bZ×Nat×Nat):Prop where
 map:∃m:Int->Option Value,dw fY u g m/\∀r,(m r).getD (.slice none 0 0)=.slice (S r).1 (S r).2.1 (S r).2.2
 own:∀r,bu w0 u (S r).1 (S r).2.1 (S r).2.2 e sz ((f r).flatMap enc)
 dj:∀r r',r≠r'->XA (S r).1 (S r').1
section
variable {α:Type} {enc:α->List Value} {e:TypeId} {sz:Nat}
theorem si.ae{u':World}{f:Int->List α}{S:Int->bZ×Nat×Nat}(h:si enc e sz w0 u g f S)(k:ax u u'):si enc e sz w0 u' g f S:=by
 exact Yw
theorem si.step{v z:World}{f f':Int->List α}{S:Int->bZ×Nat×Nat}{m:Int->Option Value}(r:Int){p:α}{A':bZ}{n' c':Nat}(h3:∀r,bu w0 u (S r).1 (S r).2.1 (S r).2.2 e sz ((f r).flatMap enc))(h4:∀r r',r≠r'->XA (S r).1 (S r').1)(hm:∀r,(m r).getD (aY)=aB (S r).1 (S r).2.1 (S r).2.2)(o:bu w0 v A' n' c' e sz ((f r).flatMap enc++enc p))(k:aj (λb=>(S r).1≠aL b) u v)(hA:A'=(S r).1\/A'=none\/∃t:World,A'=aL t.heap.size/\ax u t){f0:Int->Option Value}(M4:dw fY v g f0)(M:dw fY z g (dZ m r (aB A' n' c')))(k5:aj (λb=>b≠g) v z)(x:ax w0 z)(hf:∀q,f' q=if q=r then f r++[p] else f q):si enc e sz w0 z g f' (λq=>if q=r then(A',n',c') else S q):=by
 refine⟨⟨_,M,λq=>?_⟩,λq=>?_,λq q' hqq=>?_⟩
 .exact YI
 .rw[hf q];by_cases e:q=r
  .simp only[asp e];rw[as7];exact YL
  .exact aoF
 .exact an6
end
section
variable {D D':Nat->Prop} {w:World} {A:Option Addr} {n c:Nat}
theorem CI{u:aW}{d:aU}{aN:Int}(hd:iG D w u d):aK prog 104 #[.agg u.toArray,aB A n c,iv aN] w (λv W=>∃J z V,v=.func (.func 203) #[] #[ptr z,ptr V,ptr J]/\ax w W/\aP W J 31 u/\aP W z 33 [aB A n c]/\aP W V 3 [iv aN]/\w.heap.size<=J/\J<z/\z<V):=by
 obtain⟨A1,n1,c1,A2,n2,c2,A3,n3,c3,A4,n4,c4,A5,n5,c5,A6,n6,c6,rfl,-⟩:=hd.ex;refine aF func104 Z<|box λJ w1 h1=>box λz w2 O=>box λV X M=>?_;have e1:=h1.au;have e2:=O.au;have e3:=M.au;have s1:=h1.size;have s2:=O.size;exact aQ _ U ⟨J,z,V,U,(h1.ae.trans O.ae).trans M.ae,(h1.aS.ae O.ae).ae M.ae,O.aS.ae M.ae,M.aS,Y,Y,Y⟩
set_option maxRecDepth 4000 in
theorem y9{l b1 b2 b3:Nat}{a6:aW}{d:aU}{aN:Int}{xs:List r9}(J:Nat->World->Prop)(hJ:∀k w w',J k w->ax w w'->J k w')(hstep:∀(k:Nat) x u,d.ed[k]? =some x->J k u->∀g,w.heap.size<=g->dw fY u g (λi=>(fM aN xs i).map iv)->iQ prog l [.agg (oW d aN xs k x).c.toArray].toArray (λv w'=>v=.bool true/\J (k+1) w'/\aj D u w'/\dw fY w' g λi=>(fM aN xs i).map iv) u)(hD1:D b1)(hDD:∀b,D' b->D b)(h1:aP w b1 31 a6)(h2:aP w b2 33 [aB A n c])(h3:aP w b3 3 [iv aN])(hd:iG D' w a6 d)(hx:bS XI D' w A n xs)(h0:J 0 w):aK prog 203 #[.func (.yield l) #[] #[],ptr b2,ptr b3,ptr b1] w (λ_ w'=>J d.ed.length w'):=by
 obtain⟨A1,n1,c1,A2,n2,c2,A3,n3,c3,A4,n4,c4,A5,n5,c5,A6,n6,c6,rfl,-,-,-,-,hdu,-⟩:=hd.ex;have a7:=hdu.an;have aa:=hdu.le;refine aF func203 Z ?_;refine go ?_;refine aJ (VB hx) ?_;rintro _ w1 ⟨x1,g,rfl,hg,M1⟩;refine go ?_;refine ld _ ((h1.ae x1).ai U) ?_;refine an ?_;refine aM (λk:Nat=>[(17,iv (k:Int))]) (λk u=>k<=n5/\aP u b1 31 [.string d.name,iv d.aG,iv d.cap,iv d.bH,aB A1 n1 c1,aB A2 n2 c2,aB A3 n3 c3,aB A4 n4 c4,aB A5 n5 c5,aB A6 n6 c6]/\bS Qs D' u A5 n5 d.ed/\J k u/\dw fY u g λi=>(fM aN xs i).map iv) (λk _=>n5-k) 0 ⟨U,Yt⟩ ⟨Y,h1.ae x1,hdu.ae x1,hJ _ _ _ h0 x1,M1⟩ U ?_;rintro G k u ⟨hk,B1,hdu,hj,M⟩;refine cD (λhlt=>?_) λhge=>?_
 .obtain⟨b,o,cs,x,rfl,hxk,-,-,hc,rfl⟩:=hdu.au (show k<n5 from Y);refine go ?_;refine alloc λb6 u1 a1=>?_;refine fg a1.aS λu2 B6 k2 z2=>?_;have e6:=a1.au;have s6:=a1.size;have xu2:ax u u2:=a1.ae.ag k2 λb hb _ e=>Y;have a8:=B1.ae xu2;refine go ?_;refine hY [iv (k:Int),iv x.due,iv d.aG] Z ?_;refine alloc λb8 u3 a3=>?_;refine fg a3.aS λu4 B8 k4 z4=>?_;have e8:=a3.au;have O:=(xu2.trans a3.ae).ag k4 λb hb _ e=>Y;have a8:=B1.ae O;have Mu:=M.ah O Yt;refine Kz (kv:=fY) (k:Int) ((fM aN xs k).map iv) (λu hu=>by subst hu;exact⟨_,Mu,U⟩) (λv hv=>?_) λhv=>?_
  .obtain⟨a,ha⟩:∃a,fM aN xs k=some a:=by
    cases hq:fM aN xs k with
    |none=>rw[hq] at hv;cases hv
    |some a0=>exact⟨a0,U⟩
   rw[ha] at hv;injection hv with hv;subst hv;refine go ?_;refine st B8 Yl rfl λu5 B5 k5 z5=>?_;have B5:aP u5 b8 230 (oW d aN xs k x).c:=by
    have e:(oW d aN xs k x).c=[iv (k:Int),iv x.due,iv (min a d.aG)]:=by unfold oW;rw[ha]
    rw[e];exact B5
   have xu5:=O.ag k5 λb hb _ e=>by have:=a1.ae.size;omega
   exact aol
  .have ha:fM aN xs k=none:=by
    cases hq:fM aN xs k with
    |none=>rfl
    |some a0=>rw[hq] at hv;cases hv
   obtain⟨u5,V⟩:∃u5,u5=u4:=⟨_,U⟩;rw[<-V] at O|-;have xu5:=O;have B5:aP u5 b8 230 (oW d aN xs k x).c:=by
    have e:(oW d aN xs k x).c=[iv (k:Int),iv x.due,iv d.aG]:=by unfold oW;rw[ha]
    rw[e,V];exact B8
   exact aol
 .obtain rfl:k=n5:=Y;rw[a7];exact mD hj
end
end
end Go.Proofs.YtakcjkbnfegidaaGreat
