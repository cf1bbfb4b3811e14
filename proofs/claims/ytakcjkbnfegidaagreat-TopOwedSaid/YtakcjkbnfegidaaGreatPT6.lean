/- Part. -/
import Derived.Test.YtakcjkbnfegidaaGreatPT5
set_option linter.all false
namespace Go.Proofs.YtakcjkbnfegidaaGreat
open Go Go.RowKit Tryz
variable{T:Nat->Int->Int}{w:World}{j r:Nat}{S:Int->aX}
structure Od where
 aH:Int
 index:Int
 aC:Int
 bP:Bool
abbrev Od.c(o:Od):aW:=[iv o.aH,iv o.index,iv o.aC,.bool o.bP]
def PC:Ty Od:=JS 4 Od.c λ_=>rfl
abbrev DM:=Int×Int->Int
def jM(f:DM)(k:Int×Int)(n:Int):DM:=λq=>if q=k then f q+n else f q
def kX(d:aU)(r h:Nat)(s:DM×List Od):Option (DM×List Od):=
 if s.1 ((r:Int),(h:Int))=0 then some s else
 match dD (dB d r) (s.1 ((r:Int),(h:Int))) with
 |none=>none
 |some v=>if(h:Int)<(dB d r).bD then none else
  some (jM s.1 ((dB d r).up,(h:Int)-(dB d r).bD) v,s.2++[⟨(h:Int)-(dB d r).bD,(r:Int),v,false⟩])
def lJ(d:aU)(r:Nat):Nat->Nat->DM×List Od->Option (DM×List Od)
 |_,0,s=>some s
 |h,k+1,s=>match kX d r h s with
  |none=>none
  |some t=>lJ d r (h+1) k t
def iA(d:aU):Nat->DM×List Od->Option (DM×List Od)
 |0,s=>some s
 |m+1,s=>match lJ d m 0 d.aG.toNat s with
  |none=>none
  |some t=>iA d m t
def kR(d:aU):List Od->DM->DM
 |[],f=>f
 |x::l,f=>kR d l (jM f ((jh d x.index.toNat).aZ,x.aH) x.aC)
def gO(d:aU)(out:List Od):Option (DM×List Od):=iA d d.aD.length (kR d out λ_=>0,out)
def nE(d:aU)(T:Nat->Int->Int)(w:Int):aX:=(List.range d.aR.length).map λf=>T f (w+cG d (jh d f).aZ)
theorem ik{d:aU}{w:Int}:(nE d T w).length=d.aR.length:=by unfold nE;rw[asz,as3]
theorem iY{d:aU}{w:Int}{f:Nat}(h:f<d.aR.length):bL (nE d T w) f=T f (w+cG d (jh d f).aZ):=by
 apply cY;unfold nE;exact Ny
theorem nF:aV []=0:=rfl
theorem bK{x:Int}{l:aX}:aV (x::l)=x+aV l:=by unfold aV;rw[atu]
theorem fG{α:Type}{f g:α->Int}:∀{l:List α},(∀x∈l,f x=g x)->aV (l.map f)=aV (l.map g)
 |[],_=>rfl
 |x::l,h=>by rw[asQ,asQ,bK,bK,h x ass,fG λy u=>h y (ast _ u)]
theorem wg{α:Type}{f g:α->Int}{p:α}{n:Int}:∀{l:List α},l.Nodup->p∈l->(∀x∈l,x≠p->g x=f x)->g p=f p+n->aV (l.map g)=aV (l.map f)+n
 |[],_,h,_,_=>by cases h
 |x::l,z,h,A,J=>by
  rw[asQ,asQ,bK,bK]
  rw[auO] at z
  rcases asM.1 h with rfl|h
  .rw[fG (f:=g) (g:=f) (l:=l) λy u=>A y (ast _ u) λe=>z.1 (e▸u),J];omega
  .rw[wg z.2 h (λy u=>A y (ast _ u)) J,A x ass λe=>z.1 (e▸h)];omega
section
variable {d:aU} {cl hs:List Int} {T:Nat->Int->Int}
theorem KD{q r:Nat}{v:Int}(u:r<hs.length)(J:hs.length=d.aD.length)(hu:(dB d r).up=q)(A:bL hs r=0):aV (dg d cl (hs.set r v) q)=aV (dg d cl hs q)+v:=by
 unfold dg;refine wg (p:=(false,r)) qk (eU.2 (.inr ⟨U,by show r<_;omega,hu⟩)) (λx _ z=>?_) ?_
 .obtain⟨b,j⟩:=x;cases b with
  |true=>rfl
  |false=>
   show bL (hs.set r v) j=bL hs j;rw[eR u,aso λe=>z (by rw[e])]
 .show bL (hs.set r v) r=bL hs r+v;rw[eR u,asp U,A];omega
theorem KE{q r:Nat}{v:Int}(z:r<hs.length)(hu:(dB d r).up≠q):aV (dg d cl (hs.set r v) q)=aV (dg d cl hs q):=by
 unfold dg;refine fG λx u=>?_;obtain⟨b,j⟩:=x;cases b with
 |true=>rfl
 |false=>
  show bL (hs.set r v) j=bL hs j;rw[eR z,aso λe=>hu ?_];subst e;rcases eU.1 u with h|h
  .cases h.1
  .exact h.2.2
theorem Rf{r:Int}(h:r<0):cG d r=0:=by
 unfold cG;rw[show(r+1).toNat=0 from Y];rfl
theorem oE(t:zV d)(h:r<d.aD.length):cG d r=(dB d r).bD+cG d (dB d r).up/\1<=(dB d r).bD:=by
 obtain⟨x,u⟩:=gx d.aD r h;rw[Ew t u,jm u];exact⟨U,(t.dl r x u).1⟩
theorem BR(v:zm d)(t:zV d):∀(r:Nat),r<d.aD.length->0<=cG d (dB d r).up/\1<=cG d r:=by
 intro r;induction r using Nat.strongRecOn with
 |ind r z=>
  intro u;obtain⟨h1,V⟩:=oE t u;have O:0<=cG d (dB d r).up:=by
   by_cases A:r=0
   .subst A;rw[v.up0,Rf Y];omega
   .obtain⟨M,J⟩:=v.up r Y u;have:=z (dB d r).up.toNat Y Y;rw[show(((dB d r).up.toNat:Nat):Int)=(dB d r).up from Y] at this;omega
  omega
def Dem(d:aU)(T:Nat->Int->Int)(m:Nat)(S:Int->aX)(f:DM):Prop:=∀q:Nat,q<m->∀h:Int,f ((q:Int),h)=aV (dg d (nE d T (h-cG d q)) (S (h-cG d q)) q)
def xW(S:Int->aX)(w:Int)(r:Nat)(v:Int):Int->aX:=λu=>if u=w then(S w).set r v else S u
theorem Dem.step(t:zV d){m:Nat}{f:DM}{h n:Int}(M:Dem d T m S f)(z:r<d.aD.length)(A:∀w,(S w).length=d.aD.length)(V:bL (S (h-cG d r)) r=0):Dem d T m (xW S (h-cG d r) r n) (jM f ((dB d r).up,h-(dB d r).bD) n):=by
 intro q J h';obtain⟨O,-⟩:=oE t z;unfold jM xW;by_cases k:((q:Int),h')=((dB d r).up,h-(dB d r).bD)
 .rw[asp k];simp only[atm] at k;have u:h'-cG d q=h-cG d r:=by rw[O,<-k.1];omega
  rw[asp u,KD (by rw[A];exact z) (A _) k.1.symm V,M q J h',u]
 .rw[aso k,M q J h'];by_cases u:h'-cG d q=h-cG d r
  .rw[asp u];rw[KE (by rw[A];exact z) λe=>k ?_,u];rw[atm];refine⟨e.symm,?_⟩;rw[O,e] at u;omega
  .rw[aso u]
theorem BS{l:aX}(h:bL l r=0):l.set r 0=l:=by
 refine atG λi=>?_;rw[auc];by_cases e:r=i
 .subst e;rw[asp U];unfold bL at h;rw[asC] at h;by_cases q:r<l.length
  .rw[asp q,asw q] at*;simp only[auE] at h;rw[h]
  .rw[aso q,as1 Y]
 .rw[aso e]
theorem Og{w:Int}(h:bL (S w) r=0):xW S w r 0=S:=by
 funext u;unfold xW;split
 .rename_i e;rw[BS h,e]
 .rfl
theorem nG{x:Reach}:dD x 0=some 0:=by unfold dD;rw[asp rfl]
theorem Oh{x:Reach}{n u:Int}(z:eB x=true)(hs:0<=x.dM/\x.dM<=1073741824)(O:0<n)(h:dD x n=some u):0<u:=by
 obtain⟨M,J,V,A⟩:=qm x n hs z h;have:=A Y;have:=BF z (v:=u) ⟨M,J⟩;omega
end
section
variable {d:aU} {T:Nat->Int->Int} {S S0:Int->List Int}
structure KH (d:aU) (T:Nat->Int->Int) (m:Nat) (S:Int->aX):Prop where
 an:∀w,(S w).length=d.aD.length
 nd:∀w,dG d (nE d T w) (d.aD.length-m)=some (S w)
 zero:∀w c,c<m->bL (S w) c=0
 pos:∀w c,0<=bL (S w) c
 sup:∀(w:Int) (c:Nat),bL (S w) c≠0->0<=w+cG d (dB d c).up/\w+cG d c<d.aG
theorem kC{α:Type}{f:α->Int}:∀{l:List α},(∀x∈l,0<=f x)->0<=aV (l.map f)
 |[],_=>asO _
 |x::l,h=>by rw[asQ,bK];have:=kC (l:=l) λy u=>h y (ast _ u);have:=h x ass;omega
theorem Vd(u:∀i h,0<=T i h)(w:Int)(i:Nat):0<=bL (nE d T w) i:=by
 by_cases hi:i<d.aR.length
 .rw[iY hi];exact u _ _
 .unfold bL;rw[asC,as1 (by rw[ik];omega)];exact asO _
def UC(d:aU)(S:Int->aX)(gl:List Od):Prop:=gl.Nodup/\∀o:Od,o∈gl↔o.bP=false/\∃c:Nat,c<d.aD.length/\o.index=c/\o.aC=bL (S (o.aH+(dB d c).bD-cG d c)) c/\o.aC≠0
def nH(d:aU)(T:Nat->Int->Int)(S:Int->aX)(r:Nat)(w:Int):Int:=aV (dg d (nE d T w) (S w) r)
def uO(d:aU)(T:Nat->Int->Int)(S:Int->aX)(r:Nat)(w:Int):Int:=(dD (dB d r) (nH d T S r w)).getD 0
def mg(d:aU)(T:Nat->Int->Int)(S:Int->aX)(r:Nat)(j:Int):Int->aX:=λw=>if 0<=w+cG d r/\w+cG d r<j then(S w).set r (uO d T S r w) else S w
theorem Oi:mg d T S r ((j+1:Nat):Int)=xW (mg d T S r j) (j-cG d r) r (uO d T S r (j-cG d r)):=by
 funext u;unfold mg xW;simp only[];by_cases e:u=(j:Int)-cG d r
 .exact Yg
 .exact Yg
theorem EF:mg d T S r ((0:Nat):Int)=S:=by
 funext u;unfold mg;rw[aso Y]
theorem Mw:mg d T S r j (j-cG d r)=S (j-cG d r):=by unfold mg;rw[aso Y]
theorem Rh(u:∀i h,0<=T i h)(z:∀w c,0<=bL (S w) c)(r:Nat)(w:Int):0<=nH d T S r w:=by
 unfold nH dg;refine kC λp _=>?_;unfold rN;split
 .exact Vd u _ _
 .exact z _ _
structure oT (d:aU) (T:Nat->Int->Int) (out:List Od) (r:Nat) (S0:Int->aX) (j:Nat) (s:DM×List Od):Prop where
 vU:Dem d T (r+1) (mg d T S0 r j) s.1
 ok:∀w,0<=w+cG d r->w+cG d r<j->dD (dB d r) (nH d T S0 r w)≠none/\(uO d T S0 r w≠0->0<=w+cG d (dB d r).up)
 gts:∃gl,s.2=out++gl/\UC d (mg d T S0 r j) gl
theorem UC.add{gl:List Od}{w x:Int}(hr:r<d.aD.length)(hl:∀w,(S w).length=d.aD.length)(X:UC d S gl)(h0:bL (S w) r=0)(hx:x≠0):UC d (xW S w r x) (gl++[⟨w+cG d r-(dB d r).bD,r,x,false⟩]):=by
 have a1:(⟨w+cG d r-(dB d r).bD,r,x,false⟩:Od)∉gl:=λhm=>by obtain⟨-,c,h1,V,J,O⟩:=(X.2 _).1 hm;simp only at V J O;have:c=r:=Y;subst this;rw[show w+cG d c-(dB d c).bD+(dB d c).bD-cG d c=w from Y,h0] at J;exact O J
 refine⟨avD.2 ⟨X.1,auO.2 ⟨ats,av4⟩,λa ha b hb e=>?_⟩,λo=>?_⟩
 .rw[asP] at hb;subst hb;subst e;exact a1 ha
 rw[atf,asP];have z:∀(c:Nat) (u:Int),(u=w/\c=r)\/bL (xW S w r x u) c=bL (S u) c:=λc u=>by
  unfold xW;by_cases e:u=w
  .subst e;rw[asp U,eR (by rw[hl];exact hr)];by_cases W:r=c
   .exact .inl ⟨U,W.symm⟩
   .rw[aso W];exact .inr U
  .rw[aso e];exact .inr U
 have A:bL (xW S w r x w) r=x:=by unfold xW;rw[asp U,eR (by rw[hl];exact hr),asp U]
 constructor
 .rintro(hm|rfl)
  .obtain⟨M,c,h1,V,J,O⟩:=(X.2 _).1 hm;refine⟨M,c,h1,V,?_,O⟩;rcases z c (o.aH+(dB d c).bD-cG d c) with⟨Z,W⟩|e
   .subst W;rw[Z,h0] at J;exact absurd J O
   .rw[e];exact J
  .refine⟨U,r,hr,U,?_,hx⟩;show x=bL (xW S w r x (w+cG d r-(dB d r).bD+(dB d r).bD-cG d r)) r;rw[show w+cG d r-(dB d r).bD+(dB d r).bD-cG d r=w from Y,A]
 .rintro⟨M,c,h1,V,J,O⟩;rcases z c (o.aH+(dB d c).bD-cG d c) with⟨Z,W⟩|e
  .right;subst W;rw[Z,A] at J;obtain⟨a,b,c',e'⟩:=o;simp only at M V J Z;subst M V J;simp only[Od.mk.injEq,and_true];omega
  .left;rw[e] at J;exact(X.2 _).2 ⟨M,c,h1,V,J,O⟩
theorem oT.step(t:zV d)(v:zm d)(hT:∀i h,0<=T i h){out:List Od}{r j:Nat}{s Z:DM×List Od}(V:r<d.aD.length)(N:KH d T (r+1) S0)(I:oT d T out r S0 j s)(h:kX d r j s=some Z):oT d T out r S0 (j+1) Z:=by
 obtain⟨w,hw⟩:∃w,w=(j:Int)-cG d r:=⟨_,U⟩;obtain⟨e1,e2⟩:=oE t V;have hl:∀u,(mg d T S0 r j u).length=d.aD.length:=λu=>by
  unfold mg;split
  .rw[asU];exact N.an u
  .exact N.an u
 have O:mg d T S0 r j w=S0 w:=by rw[hw];exact Mw
 have W:bL (mg d T S0 r j w) r=0:=by rw[O];exact N.zero w r Y
 have hn:s.1 ((r:Int),(j:Int))=nH d T S0 r w:=by rw[I.vU r Y j,<-hw,O];rfl
 have A:mg d T S0 r ((j+1:Nat):Int)=xW (mg d T S0 r j) w r (uO d T S0 r w):=by rw[hw];exact Oi
 have M:∀u:Int,dD (dB d r) (nH d T S0 r w)≠none->(uO d T S0 r w≠0->0<=w+cG d (dB d r).up)->0<=u+cG d r->u+cG d r<((j+1:Nat):Int)->dD (dB d r) (nH d T S0 r u)≠none/\(uO d T S0 r u≠0->0<=u+cG d (dB d r).up):=λu h1 h2 h3 h4=>by
  by_cases e:u=w
  .rw[e];exact⟨h1,h2⟩
  .exact I.ok u h3 Y
 unfold kX at h;rw[hn] at h;by_cases z:nH d T S0 r w=0
 .rw[asp z] at h;injection h with h;subst h;have v0:uO d T S0 r w=0:=by unfold uO;rw[z,nG];rfl
  have e3:mg d T S0 r ((j+1:Nat):Int)=mg d T S0 r j:=by rw[A,v0];exact Og W
  exact⟨by rw[e3];exact I.vU,λu=>M u (by rw[z,nG];simp) λk=>absurd v0 k,by rw[e3];exact I.gts⟩
 .rw[aso z] at h;cases J:dD (dB d r) (nH d T S0 r w) with
  |none=>rw[J] at h;cases h
  |some x=>
   rw[J] at h;dsimp only at h;by_cases q:(j:Int)<(dB d r).bD
   .rw[asp q] at h;cases h
   rw[aso q] at h;injection h with h;subst h;have X:uO d T S0 r w=x:=by unfold uO;rw[J];rfl
   obtain⟨gl,g1,g2⟩:=I.gts;refine⟨?_,λu=>M u (by rw[J];simp) λ_=>Y,?_⟩
   .rw[A,X];have:=I.vU.step t (h:=j) (n:=x) V hl (by rw[<-hw];exact W);rw[<-hw] at this;exact this
   .refine⟨gl++[⟨(j:Int)-(dB d r).bD,r,x,false⟩],by rw[g1,as5],?_⟩;rw[A,X];obtain⟨l1,l2,l3⟩:=v.rO V;have hx:x≠0:=by have:=Rh (d:=d) hT N.pos r w;have:=Oh l1 ⟨l2,l3⟩ Y J;omega
    have:=g2.add (w:=w) V hl W hx;rw[show w+cG d r-(dB d r).bD=(j:Int)-(dB d r).bD from Y] at this;exact this
theorem oT.can(t:zV d)(v:zm d){out:List Od}{r j:Nat}{s:DM×List Od}(u:r<d.aD.length)(I:oT d T out r S0 j s)(h1:dD (dB d r) (nH d T S0 r (j-cG d r))≠none)(O:(j:Int)-cG d r<0->nH d T S0 r (j-cG d r)=0):∃A,kX d r j s=some A:=by
 obtain⟨W,V⟩:=oE t u;have M:s.1 ((r:Int),(j:Int))=nH d T S0 r (j-cG d r):=by rw[I.vU r Y j,Mw];rfl
 unfold kX;rw[M];by_cases z:nH d T S0 r (j-cG d r)=0
 .rw[asp z];exact⟨_,U⟩
 .rw[aso z];cases J:dD (dB d r) (nH d T S0 r (j-cG d r)) with
  |none=>exact absurd J h1
  |some x=>
   dsimp only;have:=(BR v t r u).1;rw[aso (by intro q;exact z (O Y))]
   exact⟨_,U⟩
theorem oT.run(t:zV d)(v:zm d)(J:∀i h,0<=T i h){out:List Od}{r:Nat}(A:r<d.aD.length)(N:KH d T (r+1) S0):∀(k j:Nat) {s z:DM×List Od},oT d T out r S0 j s->lJ d r j k s=some z->oT d T out r S0 (j+k) z
 |0,j,s,z,I,h=>by
  injection h with h;subst h;exact I
 |k+1,j,s,z,I,h=>by
  unfold lJ at h
  cases h1:kX d r j s with
  |none=>rw[h1] at h;cases h
  |some u=>
   rw[h1] at h
   have:=oT.run t v J A N k (j+1) (I.step t v J A N h1) h
   rwa [show j+1+k=j+(k+1) by omega] at this
theorem oT.runs(t:zV d)(v:zm d)(J:∀i h,0<=T i h){out:List Od}{r:Nat}(A:r<d.aD.length)(N:KH d T (r+1) S0)(h1:∀w,dD (dB d r) (nH d T S0 r w)≠none)(M:∀w,w<0->nH d T S0 r w=0):∀(k j:Nat) {s:DM×List Od},oT d T out r S0 j s->∃z,lJ d r j k s=some z
 |0,j,s,_=>⟨s,rfl⟩
 |k+1,j,s,I=>by
  obtain⟨u,hu⟩:=I.can t v A (h1 _) (M _)
  obtain⟨z,h⟩:=oT.runs t v J A N h1 M k (j+1) (I.step t v J A N hu)
  exact⟨z,by unfold lJ;rw[hu];exact h⟩
theorem KH.out(t:zV d)(hH:∀i h,T i h≠0->0<=h/\h<d.aG){r:Nat}(N:KH d T (r+1) S){w:Int}(hw:¬(0<=w+cG d r/\w+cG d r<d.aG)):nH d T S r w=0:=by
 unfold nH dg;have:aV ((fF d r).map (rN (nE d T w) (S w)))=aV ((fF d r).map λ_=>0):=by
  refine fG λp J=>?_;obtain⟨b,i⟩:=p;rcases eU.1 J with⟨rfl,z,u⟩|⟨rfl,z,u⟩
  .show bL (nE d T w) i=0;simp only at z u;rw[iY z,u];by_cases q:T i (w+cG d r)=0
   .exact q
   .exact absurd (hH _ _ q) hw
  .show bL (S w) i=0;by_cases q:bL (S w) i=0
   .exact q
   .exfalso;simp only at z u;obtain⟨O,a2⟩:=N.sup w i q;obtain⟨M,V⟩:=oE t z;rw[u] at O M;omega
 rw[this];generalize fF d r=l;induction l with
 |nil=>rfl
 |cons a l A=>rw[asQ,bK,A];rfl
theorem KH.next(t:zV d)(v:zm d)(hH:∀i h,T i h≠0->0<=h/\h<d.aG){out:List Od}{r:Nat}{s:DM×List Od}(J:r<d.aD.length)(N:KH d T (r+1) S)(I:oT d T out r S d.aG.toNat s):KH d T r (mg d T S r d.aG.toNat):=by
 have an:∀w,(mg d T S r d.aG.toNat w).length=d.aD.length:=λw=>by
  unfold mg;split
  .rw[asU];exact N.an w
  .exact N.an w
 have val:∀w,0<=uO d T S r w:=λw=>by
  obtain⟨l1,l2,M⟩:=v.rO J;unfold uO;cases z:dD (dB d r) (nH d T S r w) with
  |none=>exact asO _
  |some x=>exact(qm _ _ ⟨l2,M⟩ l1 z).1
 have au:∀w c,bL (mg d T S r d.aG.toNat w) c=bL (S w) c\/(c=r/\(0<=w+cG d r/\w+cG d r<d.aG.toNat)/\bL (mg d T S r d.aG.toNat w) c=uO d T S r w):=λw c=>by
  unfold mg;by_cases h:0<=w+cG d r/\w+cG d r<d.aG.toNat
  .rw[asp h,eR (by rw[N.an];exact J)];by_cases e:r=c
   .rw[asp e];exact .inr ⟨e.symm,h,U⟩
   .rw[aso e];exact .inl U
  .rw[aso h];exact .inl U
 refine⟨an,λw=>?_,λw c u=>?_,λw c=>?_,λw c u=>?_⟩
 .have e:=N.nd w;rw[show d.aD.length-r=(d.aD.length-(r+1))+1 from Y,dG,e];dsimp only;rw[show d.aD.length-1-(d.aD.length-(r+1))=r from Y];by_cases h:0<=w+cG d r/\w+cG d r<d.aG.toNat
  .have hk:=(I.ok w h.1 h.2).1;have A:aV (dg d (nE d T w) (S w) r)=nH d T S r w:=U;rw[A];unfold mg;rw[asp h];unfold uO;cases z:dD (dB d r) (nH d T S r w) with
   |none=>exact absurd z hk
   |some x=>rfl
  .have A:aV (dg d (nE d T w) (S w) r)=0:=N.out t hH (w:=w) Y;rw[A,nG];dsimp only;unfold mg;rw[aso h,BS (N.zero w r Y)]
 .rcases au w c with e|⟨e,-⟩
  .rw[e];exact N.zero w c Y
  .omega
 .rcases au w c with e|⟨-,-,e⟩
  .rw[e];exact N.pos w c
  .rw[e];exact val w
 .rcases au w c with e|⟨rfl,h,e⟩
  .rw[e] at u;exact N.sup w c u
  .rw[e] at u;exact⟨(I.ok w h.1 h.2).2 u,Y⟩
theorem oT.bH{out u:List Od}{f:DM}(D:Dem d T (r+1) S f)(G:UC d S u):oT d T out r S 0 (f,out++u):=by
 refine⟨?_,λw h1 z=>Y,u,U,?_⟩
 .have:=EF (d:=d) (T:=T) (S:=S) (r:=r);rw[this];exact D
 .have:=EF (d:=d) (T:=T) (S:=S) (r:=r);rw[this];exact G
theorem yV(t:zV d)(v:zm d)(M:∀i h,0<=T i h)(hH:∀i h,T i h≠0->0<=h/\h<d.aG){out:List Od}:∀(m:Nat) {f:DM} {A:List Od} {S:Int->aX} {J:DM×List Od},m<=d.aD.length->KH d T m S->Dem d T m S f->UC d S A->iA d m (f,out++A)=some J->∃z V,J.2=out++z/\KH d T 0 V/\UC d V z
 |0,f,A,S,J,_,N,D,G,h=>by
  injection h with h;subst h
  exact⟨A,S,rfl,N,G⟩
 |m+1,f,A,S,J,hm,N,D,G,h=>by
  unfold iA at h
  cases h1:lJ d m 0 d.aG.toNat (f,out++A) with
  |none=>rw[h1] at h;cases h
  |some u=>
   rw[h1] at h
   have I:=oT.run t v M Y N _ 0 (oT.bH D G) h1
   rw[as9] at I
   obtain⟨z,O,W⟩:=I.gts
   obtain⟨Z,X⟩:=u
   simp only at O
   subst O
   exact yV t v M hH m Y (N.next t v hH Y I) (λq hq=>I.vU q Y) W h
theorem yW(t:zV d)(v:zm d)(V:∀i h,0<=T i h)(hH:∀i h,T i h≠0->0<=h/\h<d.aG)(hw:∀w,dT d (nE d T w)≠none)(Z:∀w,w<0->∀i,bL (nE d T w) i=0){out:List Od}:∀(m:Nat) {f:DM} {A:List Od} {S:Int->aX},m<=d.aD.length->KH d T m S->(∀w,w<0->∀c,bL (S w) c=0)->Dem d T m S f->UC d S A->∃J,iA d m (f,out++A)=some J
 |0,f,A,S,_,N,_,D,G=>⟨_,rfl⟩
 |m+1,f,A,S,hm,N,O,D,G=>by
  have z:∀(cl:aX) (k n:Nat),k<=n->dG d cl n≠none->dG d cl k≠none:=λcl k n hk h=>by
   induction n with
   |zero=>rw[show k=0 by omega];exact h
   |succ n M=>
    by_cases e:k=n+1
    .rw[e];exact h
    .refine M Y λW=>h ?_
     unfold dG
     rw[W]
  have X:∀w,w<0->nH d T S m w=0:=λw hw=>by
   unfold nH dg
   have:aV ((fF d m).map (rN (nE d T w) (S w)))=aV ((fF d m).map λ_=>0):=by
    refine fG λp _=>?_
    unfold rN
    split
    .exact Z w hw _
    .exact O w hw _
   rw[this]
   generalize fF d m=l
   induction l with
   |nil=>rfl
   |cons a l M=>rw[asQ,bK,M];rfl
  obtain⟨u,h1⟩:=oT.runs t v V Y N (λw e=>by
   refine z (nE d T w) (d.aD.length-(m+1)+1) d.aD.length Y (hw w) ?_
   rw[dG,N.nd w]
   dsimp only
   rw[show d.aD.length-1-(d.aD.length-(m+1))=m from Y]
   have e':dD (dB d m) (aV (dg d (nE d T w) (S w) m))=none:=e
   rw[e']) X d.aG.toNat 0 (oT.bH (out:=out) D G)
  have I:=oT.run t v V Y N _ 0 (oT.bH (out:=out) D G) h1
  rw[as9] at I
  obtain⟨a1,e1,W⟩:=I.gts
  obtain⟨u1,u2⟩:=u
  simp only at e1
  subst e1
  obtain⟨J,h2⟩:=yW t v V hH hw Z (out:=out) m Y (N.next t v hH Y I) (λw hw c=>by
   unfold mg
   split
   .rename_i q
    rw[eR (by rw[N.an];omega)]
    split
    .unfold uO
     rw[X w hw,nG];rfl
    .exact O w hw c
   .exact O w hw c) (λq hq=>I.vU q Y) W
  exact⟨J,by unfold iA;rw[h1];exact h2⟩
end
def jN:List Od->Nat->Int->Int
 |[],_,_=>0
 |x::l,i,h=>(if x.index=i/\x.aH=h then x.aC else 0)+jN l i h
def yX(d:aU)(out:List Od):Prop:=∀x∈out,(0<=x.index/\x.index<d.aR.length)/\(0<=x.aH/\x.aH<d.aG)/\1<=x.aC
section
variable {d:aU} {out:List Od}
theorem BT:∀{out:List Od},yX d out->∀i h,0<=jN out i h
 |[],_,_,_=>asO _
 |x::l,u,i,h=>by
  have:=BT (out:=l) (λy z=>u y (ast _ z)) i h
  have:=(u x ass).2.2
  unfold jN
  split<;>omega
theorem BU:∀{out:List Od},yX d out->∀i h,jN out i h≠0->0<=h/\h<d.aG
 |[],_,_,_,h=>absurd rfl h
 |x::l,u,i,h,z=>by
  unfold jN at z
  by_cases e:x.index=i/\x.aH=h
  .rw[<-e.2];exact(u x ass).2.1
  .rw[aso e] at z
   exact BU (out:=l) (λy A=>u y (ast _ A)) i h Y
theorem GB:∀(l:List Od) (f:DM) (k:Int×Int),kR d l f k=f k+kR d l (λ_=>0) k
 |[],f,k=>by show f k=f k+0;omega
 |x::l,f,k=>by
  unfold kR
  rw[GB l (jM f _ _) k,GB l (jM (λ_=>0) _ _) k]
  unfold jM
  simp only[]
  split<;>omega
theorem xX:∀{out:List Od},yX d out->∀(q:Nat) (h:Int),kR d out (λ_=>0) ((q:Int),h)=aV (dg d (nE d (jN out) (h-cG d q)) (List.replicate d.aD.length 0) q)
 |[],_,q,h=>by
  show(0:Int)=_
  have:aV ((fF d q).map (rN (nE d (jN []) (h-cG d q)) (List.replicate d.aD.length 0)))=aV ((fF d q).map λ_=>0):=by
   refine fG λp _=>?_
   unfold rN
   split
   .by_cases hi:p.2<d.aR.length
    .rw[iY hi];rfl
    .unfold bL;rw[asC,as1 (by rw[ik];omega)];rfl
   .unfold bL;rw[asC,at7];split<;>rfl
  unfold dg
  rw[this]
  generalize fF d q=l
  induction l with
  |nil=>rfl
  |cons a l O=>rw[asQ,bK,<-O];rfl
 |x::l,W,q,h=>by
  have O:=xX (out:=l) (λy A=>W y (ast _ A)) q h
  obtain⟨⟨Z,X⟩,-,-⟩:=W x ass
  obtain⟨i,hi⟩:∃i:Nat,x.index=i:=⟨x.index.toNat,Y⟩
  have z:i<d.aR.length:=Y
  show kR d l (jM (λ_=>0) ((jh d x.index.toNat).aZ,x.aH) x.aC) ((q:Int),h)=_
  rw[GB,O,show x.index.toNat=i from Y]
  unfold jM dg
  by_cases e:((q:Int),h)=((jh d i).aZ,x.aH)
  .rw[asp e]
   simp only[atm] at e
   have hm:(true,i)∈fF d (q:Int):=eU.2 (.inl ⟨U,z,e.1.symm⟩)
   have:=wg (f:=rN (nE d (jN l) (h-cG d q)) (List.replicate d.aD.length 0)) (g:=rN (nE d (jN (x::l)) (h-cG d q)) (List.replicate d.aD.length 0)) (p:=(true,i)) (n:=x.aC) qk hm (λy A V=>by
    obtain⟨b,j⟩:=y
    cases b with
    |false=>rfl
    |true=>
     rcases eU.1 A with⟨-,u,J⟩|⟨M,-⟩
     .show bL (nE d (jN (x::l)) _) j=bL (nE d (jN l) _) j
      simp only at u
      rw[iY u,iY u]
      show(if x.index=j/\_ then x.aC else 0)+_=_
      rw[aso λk=>V (by
       rw[show j=i from Y])]
      omega
     .cases M) (by
    show bL (nE d (jN (x::l)) _) i=bL (nE d (jN l) _) i+_
    rw[iY z,iY z,<-e.1]
    show(if x.index=i/\x.aH=h-cG d q+cG d q then x.aC else 0)+_=_
    rw[asp ⟨hi,by have:=e.2;omega⟩,Int.add_comm])
   rw[this];show(0:Int)+_+_=_;omega
  .rw[aso e,avV]
   refine fG λy A=>?_
   obtain⟨b,j⟩:=y
   cases b with
   |false=>rfl
   |true=>
    rcases eU.1 A with⟨-,u,J⟩|⟨M,-⟩
    .show bL (nE d (jN l) _) j=bL (nE d (jN (x::l)) _) j
     simp only at u J
     rw[iY u,iY u]
     show _=(if x.index=j/\x.aH=h-cG d q+cG d (jh d j).aZ then x.aC else 0)+_
     rw[aso λk=>e ?_,avV]
     rw[atm]
     have:j=i:=Y
     subst this
     rw[J] at k
     exact⟨J.symm,Y⟩
    .cases M
theorem EG:KH d T d.aD.length (λ_=>List.replicate d.aD.length 0):=by
 have z:∀c,bL (List.replicate d.aD.length 0) c=0:=λc=>adD
 refine⟨λw=>atz ..,λw=>?_,λw c _=>z c,λw c=>Yg,λw c h=>absurd (z c) h⟩;rw[aug];rfl
theorem EH:UC d (λ_=>List.replicate d.aD.length 0) []:=by
 refine⟨av4,λo=>⟨λh=>(by cases h),λ⟨_,c,_,_,h,h'⟩=>?_⟩⟩;exfalso;refine h' (h.trans ?_);exact adD
theorem GC(z:cH d=0)(u:yX d out){s:DM×List Od}(h:gO d out=some s):∃A S,s.2=out++A/\KH d (jN out) 0 S/\UC d S A:=by
 have t:=kp z;have v:=gY z;unfold gO at h;have e:=(asT out).symm;rw[show(kR d out λ_=>0,out)=(kR d out λ_=>0,out++[]) from by rw[asT]] at h;exact yV t v (BT u) (BU u) _ (asN _) EG (λq _ h=>xX u q h) EH h
theorem Ri(z:cH d=0)(u:yX d out)(hw:∀w,dT d (nE d (jN out) w)≠none)(A:∀w,w<0->∀i,bL (nE d (jN out) w) i=0):∃s,gO d out=some s:=by
 have t:=kp z;have v:=gY z;unfold gO;rw[show(kR d out λ_=>0,out)=(kR d out λ_=>0,out++[]) from by rw[asT]];exact yW t v (BT u) (BU u) hw A _ (asN _) EG (λw _ c=>by unfold bL;rw[asC,at7];split<;>rfl) (λq _ h=>xX u q h) EH
theorem KH.all(N:KH d T 0 S)(w:Int):dT d (nE d T w)=some (S w):=by
 have:=N.nd w;rwa [aup] at this
theorem uP{cl:aX}(u:∀i,bL cl i=0):∀k,dG d cl k=some (List.replicate d.aD.length 0)
 |0=>rfl
 |k+1=>by
  have z:∀c,bL (List.replicate d.aD.length 0) c=0:=λc=>by
   unfold bL;rw[asC,at7];split<;>rfl
  have e:∀r,aV (dg d cl (List.replicate d.aD.length 0) r)=0:=λr=>by
   unfold dg
   have:aV ((fF d r).map (rN cl (List.replicate d.aD.length 0)))=aV ((fF d r).map λ_=>0):=by
    refine fG λp _=>?_
    unfold rN
    split
    .exact u _
    .exact z _
   rw[this]
   generalize fF d r=l
   induction l with
   |nil=>rfl
   |cons a l A=>rw[asQ,bK,A];rfl
  rw[dG,uP u k]
  dsimp only
  rw[e,nG]
  dsimp only
  rw[BS (z _)]
end
section
open Classical
theorem Mx(k v:Value)(c:Nat):(Kt k v c).key=k:=rfl
theorem BV{L:List MapEntry}{e:MapEntry}{k:Value}(he:e.key=k)(h:(L.map (·.key)).Nodup)(M:∀x∈L,x.key≠k):((L++[e]).map (·.key)).Nodup:=by
 rw[asK,avD];refine⟨h,by simp,λx J y u=>?_⟩;obtain⟨z,A,rfl⟩:=asS.1 J;simp only[asQ,au1,asP] at u;subst u;rw[he];exact M z A
theorem wh{L:List MapEntry}(h:(L.map (·.key)).Nodup)(j:Nat)(v:Value):((L.modify j λe=>{e with val:=v}).map (·.key)).Nodup:=by
 have:(L.modify j λe=>{e with val:=v}).map (·.key)=L.map (·.key):=by
  apply atG;intro i;rw[as6,as6,auz];cases L[i]? with
  |none=>rfl
  |some e=>
   show some _=some _;by_cases u:j=i
   .simp[u]
   .simp[u]
 rw[this];exact h
theorem nI{L:List MapEntry}(h:(L.map (·.key)).Nodup):∀{e:MapEntry},e∈L->gN e.key L=some e.val:=by
 induction L with
 |nil=>intro e he;cases he
 |cons a L u=>
  intro e he;rw[asQ,auO] at h;rw[eK];rcases asM.1 he with rfl|he
  .rw[asp U]
  .rw[aso λq=>h.1 Yg];exact u h.2 he
theorem BW{v x:Value}{L:List MapEntry}(h:gN v L=some x):∃e∈L,e.key=v/\e.val=x:=by
 induction L with
 |nil=>cases h
 |cons a L u=>
  rw[eK] at h;by_cases q:a.key=v
  .exact Yg
  .exact Yg
def fL{κ:Type}(kv:κ->Value)(w:World)(g:Nat)(f:κ->Option Value):Prop:=∃L c,qX kv w g L c/\(L.map (·.key)).Nodup/\∀a,gN (kv a) L=f a
def Ve{κ:Type}(kv:κ->Value)(w:World)(g:Nat)(f:κ->Option Value)(a:κ)(s:Nat):Prop:=∃L c,qX kv w g L c/\(L.map (·.key)).Nodup/\(∀a,gN (kv a) L=f a)/\∃(j:Nat) (e:MapEntry),L[j]? =some e/\e.key=kv a/\e.born=s/\∀(m:Nat) (y:MapEntry),m<j->L[m]? =some y->y.key≠kv a
section
variable {P:Program} {κ:Type} {kv:κ->Value}
theorem fL.g{g:Nat}{f:κ->Option Value}(h:fL kv w g f):dw kv w g f:=by obtain⟨L,c,h1,_,u⟩:=h;exact⟨L,c,h1,u⟩
theorem Ve.g{g s:Nat}{f:κ->Option Value}{a:κ}(h:Ve kv w g f a s):fL kv w g f:=by obtain⟨L,c,h1,z,u,_⟩:=h;exact⟨L,c,h1,z,u⟩
theorem fL.ah{D:Nat->Prop}{u:World}{g:Nat}{f:κ->Option Value}(h:fL kv w g f)(k:aj D w u)(z:D g):fL kv u g f:=by
 obtain⟨L,c,h1,A⟩:=h;exact⟨L,c,h1.ah k z,A⟩
theorem fL.new(kv:κ->Value)(w:World):fL kv (w.alloc (.map #[] 0)) w.heap.size (λ_=>none):=⟨[],0,qX.new kv w,by simp,λ_=>rfl⟩
theorem BX{t k e:TypeId}[hm:jx P t k e][hk:rD P k kv]{g:Nat}{f:κ->Option Value}(a:κ){v:Value}{w:World}{K:VK}(h:fL kv w g f)(kk:∀w',fL kv w' g (dZ f a v)->aj (λb=>b≠g) w w'->w'.heap.size=w.heap.size->K undef w'):L5 P t (.map (some g)) (kv a) v K w:=by
 rw[pd];intro w0 hw;subst hw;have h1:=jI hm.h;obtain⟨L,c,hE,hU,hf⟩:=h;have hb:w0.heap[g]? =some (.map L.toArray c):=hE.au;have hfn:=hk.Xp a L w0 hE.keys;cases hp:gz (kv a) L 0 with
 |none=>
  rw[hp] at hfn;have hr:(uS (Instr.mapUpdate t (.map (some g)) (kv a) v)).run P w0=.ok .skip {w0 with heap:=w0.heap.setIfInBounds g (.map (L++[(Kt (kv a) v c)]).toArray (c+1))}:=aoG
  rw[hr];obtain⟨k1,k2⟩:=heap_set (o:=.map (L++[(Kt (kv a) v c)]).toArray (c+1)) hb;refine kk (z {w0 with heap:=w0.heap.setIfInBounds g _}) ⟨_,_,⟨k2,λy hy=>?_,hE.born.push _ _⟩,BV (Mx (kv a) _ c) hU (pY.1 hp),λb=>?_⟩ k1 (by simp[z])
  .exact ady
  .rw[pZ (x:=(Kt (kv a) v c)) L (nB.2 hp)];exact TM
 |some p=>
  obtain⟨n,x⟩:=p;rw[hp] at hfn;obtain⟨j,y,hn,hj,hy,_,J⟩:=nA hp;have hn:n=j:=Y;subst hn;have hr:(uS (Instr.mapUpdate t (.map (some g)) (kv a) v)).run P w0=.ok .skip {w0 with heap:=w0.heap.setIfInBounds g (.map (L.modify n λe=>{e with val:=v}).toArray c)}:=aoi
  rw[hr];obtain⟨k1,k2⟩:=heap_set (o:=.map (L.modify n λe=>{e with val:=v}).toArray c) hb;refine kk (z {w0 with heap:=w0.heap.setIfInBounds g _}) ⟨_,_,⟨k2,rF hE.keys n v,hE.born.modify n v⟩,wh hU n v,λb=>?_⟩ k1 (by simp[z]);rw[mT (k:=kv a) L n y hj hy J];exact TM
theorem rU{t k e:TypeId}{zv:Value}[hm:jx P t k e][hk:rD P k kv][hz:bQ P e zv]{g:Nat}{f:κ->Option Value}(a:κ){w:World}{K:VK}(h:fL kv w g f)(kk:∀w' (s:Nat),Ve kv w' g (dZ f a ((f a).getD zv)) a s->aj (λb=>b≠g) w w'->w'.heap.size=w.heap.size->K (.tuple #[(f a).getD zv,.int .i64 (s:Int)]) w'):PV P t (.map (some g)) (kv a) K w:=by
 rw[AO];intro w0 hw;subst hw;have h1:=jI hm.h;obtain⟨L,c,hE,hU,hf⟩:=h;have hb:w0.heap[g]? =some (.map L.toArray c):=hE.au;have hfn:=hk.Xp a L w0 hE.keys;cases hp:gz (kv a) L 0 with
 |none=>
  rw[hp] at hfn;have J:f a=none:=by rw[<-hf a];exact nB.2 hp
  have hr:(vS (Instr.mapEntry t (.map (some g)) (kv a))).run P w0=.ok (.value (.tuple #[zv,.int .i64 (c:Int)])) {w0 with heap:=w0.heap.setIfInBounds g (.map (L++[(Kt (kv a) zv c)]).toArray (c+1))}:=by rw[gG];unfold Instr.mapEntry;simp only[asI,asX h1,asJ,atQ hb,hk.UA,hfn,iT hz.h,aub _ hb,atr];simp[goInt]
  rw[hr];obtain⟨k1,k2⟩:=heap_set (o:=.map (L++[(Kt (kv a) zv c)]).toArray (c+1)) hb;have:=kk (z {w0 with heap:=w0.heap.setIfInBounds g (.map (L++[(Kt (kv a) zv c)]).toArray (c+1))}) c ⟨_,_,⟨k2,λy hy=>?_,hE.born.push _ _⟩,BV (Mx (kv a) _ c) hU (pY.1 hp),λb=>?_,L.length,(Kt (kv a) zv c),by simp,U,U,λm y hm hy=>?_⟩ k1 (by simp[z])
  .rw[J] at this;exact this
  .exact ady
  .rw[pZ (x:=(Kt (kv a) zv c)) L (nB.2 hp),J];unfold dZ;by_cases hab:b=a
   .subst hab;rw[asp U,asp U];rfl
   .rw[aso λe=>hab (hk.inj _ _ e).symm,aso hab,hf]
  .rw[asR hm] at hy;exact pY.1 hp y (asq hy)
 |some p=>
  obtain⟨n,x⟩:=p;rw[hp] at hfn;obtain⟨j,y,hn,hj,hy,hyx,O⟩:=nA hp;have hn:n=j:=Y;subst hn;have J:f a=some x:=by rw[<-hf a];unfold gN;rw[hp];rfl
  have hr:(vS (Instr.mapEntry t (.map (some g)) (kv a))).run P w0=.ok (.value (.tuple #[x,.int .i64 (y.born:Int)])) {w0 with heap:=w0.heap.setIfInBounds g (.map L.toArray c)}:=by
   rw[gG];unfold Instr.mapEntry;have hkey:((L.toArray[n]?).map (·.key)).getD (kv a)=kv a:=by simp[hj,hy]
   simp only[asI,asX h1,asJ,atQ hb,hk.UA,hfn,hkey,Instr.keyThatStays,hk.bits,auM,atr,aub _ hb];have e1:=HN hj hy;have e2:(L.toArray.modify n λe=>{e with key:=kv a})=L.toArray:=by have:=congrArg List.toArray e1;simpa using this
   rw[e2];simp[goInt,hj]
  rw[hr];obtain⟨k1,k2⟩:=heap_set (o:=.map L.toArray c) hb;have:=kk (z {w0 with heap:=w0.heap.setIfInBounds g (.map L.toArray c)}) y.born ⟨L,c,⟨k2,hE.keys,hE.born⟩,hU,λb=>?_,n,y,hj,hy,U,O⟩ k1 (by simp[z])
  .rw[J] at this;exact this
  .rw[hf,J];unfold dZ;by_cases hab:b=a
   .subst hab;rw[asp U];exact J
   .rw[aso hab]
theorem wj{t k e:TypeId}[_hm:jx P t k e][hk:rD P k kv]{g s:Nat}{f:κ->Option Value}{a:κ}{v:Value}{K:VK}(h:Ve kv w g f a s)(kk:∀w',fL kv w' g (dZ f a v)->aj (λb=>b≠g) w w'->w'.heap.size=w.heap.size->K undef w'):PW P t (.map (some g)) (.int .i64 (s:Int)) v K w:=by
 rw[AP];intro w0 hw;subst hw;obtain⟨L,c,hE,hU,hf,j,y,hj,hy,hs,J⟩:=h;have hb:w0.heap[g]? =some (.map L.toArray c):=hE.au;subst hs;have a6:=(asr.1 hj).1;have O:L.toArray.findIdx? (λe=>(e.born:Int) == (y.born:Int))=some j:=by
  rw[List.findIdx?_toArray];rw[auX];refine⟨a6,?_,λm hm=>?_⟩
  .have:L[j]=y:=(asr.1 hj).2;simp[this]
  .have V:L[m]? =some L[m]:=asw Y;simp only[avB,Int.natCast_inj];intro e;have:=(hE.born j y hj).2 m _ V e;omega
 have hr:(uS (Instr.entryStore t (.map (some g)) (.int .i64 (y.born:Int)) v)).run P w0=.ok .skip {w0 with heap:=w0.heap.setIfInBounds g (.map (L.modify j λe=>{e with val:=v}).toArray c)}:=by have a7:(asInt (.int .i64 (y.born:Int))).run P w0=.ok (y.born:Int) w0:=U;unfold uS Instr.entryStore;simp only[asI,asJ,atQ hb,a7,atr,O,aub _ hb];simp
 rw[hr];obtain⟨k1,k2⟩:=heap_set (o:=.map (L.modify j λe=>{e with val:=v}).toArray c) hb;refine kk (z {w0 with heap:=w0.heap.setIfInBounds g _}) ⟨_,_,⟨k2,rF hE.keys j v,hE.born.modify j v⟩,wh hU j v,λb=>?_⟩ k1 (by simp[z]);rw[mT (k:=kv a) L j y hj hy J];exact TM
end
def uQ:Ty Cm:=JS 5 (λc=>bM c) λ_=>rfl
theorem Ik{D:Nat->Prop}{w:World}:∀{s:List Cm},dW uQ D w s (s.flatMap bM)
 |[]=>rfl
 |p::s=>⟨bM p,s.flatMap bM,rfl,rfl,Ik⟩
def abA(c:Cm):Bool:=dS c.right 0 255&&(dS c.aO 0 599&&(dS c.aH 0 4095&&(dS c.aC 1 1073741824&&dS c.cC 0 1048576)))
def Rj(l:List Cm):Prop:=(∀c∈l,abA c=true)/\l.Pairwise λa b=>tf a.ti b.ti
def ofF(fr hr:Int)(c:Cm):Int:=if c.aO=fr/\c.aH=hr then c.aC else 0
def aqC(fr hr:Int)(l:List Cm):Int:=(l.map (ofF fr hr)).sum
abbrev GM:=Ti->Option Int
noncomputable def Vg (g:GM)(t:Ti)(n:Int):GM:=λb=>if b=t then some n else g b
noncomputable def aqD (l:List Cm):GM:=l.foldl (λg c=>Vg g c.ti c.aC) λ_=>none
noncomputable def amR (fr to hr aC got:Int)(s:Int×GM)(c:Cm):Int×GM:=if c.aO=fr/\c.aH=hr then(s.1+min c.aC (aC-s.1),Vg (Vg s.2 c.ti ((s.2 c.ti).getD 0-min c.aC (aC-s.1))) (c.aH,c.cC,c.right,to) (((Vg s.2 c.ti ((s.2 c.ti).getD 0-min c.aC (aC-s.1))) (c.aH,c.cC,c.right,to)).getD 0+((s.1+min c.aC (aC-s.1))*got/aC-s.1*got/aC))) else s
noncomputable def XC (fr to hr aC got:Int)(l:List Cm)(i:Nat):Int×GM:=(l.drop i).reverse.foldl (amR fr to hr aC got) (0,aqD l)
def aqE(fr to hr aC got:Int):Bool:=dS fr 0 599&&(dS to 0 599&&(!decide (fr=to)&&(dS hr 0 4095&&(dS aC 1 1073741824&&dS got 0 1073741824))))
noncomputable def amT (fr to hr aC got:Int)(l:List Cm):GM:=(XC fr to hr aC got l 0).2
theorem Il{L:List MapEntry}{seen:List Nat}{e:MapEntry}(he:e∈L)(O:e.born∉seen):(L.filter λx=>!(seen++[e.born]).contains x.born).length<(L.filter λx=>!seen.contains x.born).length:=by
 induction L with
 |nil=>cases he
 |cons a L J=>
  have hle:(L.filter λx=>!(seen++[e.born]).contains x.born).length<=(L.filter λx=>!seen.contains x.born).length:=by rw[<-av5,<-av5];refine List.countP_mono_left λx _ A=>?_;simp only[atj,List.contains_eq_mem,asZ,atf] at A|-;exactλh=>A (.inl h)
  rw[atT,atT];by_cases z:a.born=e.born
  .exact Yg
  .have u:e∈L:=Yg;have:=J u;have M:(!(seen++[e.born]).contains a.born)=(!seen.contains a.born):=by simp[z]
   rw[M];by_cases V:(!seen.contains a.born)=true
   .exact Yg
   .exact Yg
theorem wm{α:Type}[DecidableEq α]:∀{a b:List α},a.Nodup->(∀x∈a,x∈b)->a.length<=b.length
 |[],_,_,_=>atc _
 |x::a,b,u,hs=>by
  rw[auO] at u
  have A:=hs x ass
  have J:=wm (b:=b.erase x) u.2 λy z=>(List.mem_erase_of_ne λe=>u.1 (by rw[<-e];exact z)).2 (hs y (ast _ z))
  rw[List.length_erase_of_mem A] at J
  have:=List.length_pos_of_mem A
  rw[as2]
  omega
end
section
variable {α:Type} {lt:α->α->Bool}
def Oj(lt:α->α->Bool)(x:α):List α->List α
 |[]=>[x]
 |y::l=>if lt x y then x::y::l else y::Oj lt x l
def il(lt:α->α->Bool):List α->List α
 |[]=>[]
 |x::l=>Oj lt x (il lt l)
structure JV (lt:α->α->Bool):Prop where
 irr:∀a,lt a a=false
 tr:∀a b c,lt a b=true->lt b c=true->lt a c=true
def mH(lt:α->α->Bool)(l:List α):Prop:=l.Pairwise λa b=>lt a b=true
def fT(lt:α->α->Bool)(l:List α):Prop:=l.Pairwise λa b=>lt a b=true\/lt b a=true
theorem xY(x:α):∀l:List α,(Oj lt x l).Perm (x::l)
 |[]=>.refl _
 |y::l=>by
  unfold Oj
  split
  .exact .refl _
  .exact((xY x l).cons y).trans (.swap ..)
theorem cP:∀l:List α,(il lt l).Perm l
 |[]=>.refl _
 |x::l=>(xY x _).trans ((cP l).cons x)
theorem Im(o:JV lt){x:α}:∀{l:List α},mH lt l->(∀y∈l,lt x y=true\/lt y x=true)->mH lt (Oj lt x l)
 |[],_,_=>atY _ _
 |y::l,h,A=>by
  unfold mH at h
  rw[atE] at h
  unfold Oj
  by_cases q:lt x y=true
  .rw[asp q]
   refine atE.2 ⟨λz u=>?_,atE.2 h⟩
   rcases asM.1 u with rfl|u
   .exact q
   .exact o.tr _ _ _ q (h.1 z u)
  .rw[aso q]
   refine atE.2 ⟨λz u=>?_,Im o h.2 λz u=>A z (ast _ u)⟩
   rcases asM.1 ((xY x l).mem_iff.1 u) with rfl|u
   .exact(A y ass).resolve_left q
   .exact h.1 z u
theorem qt(o:JV lt):∀{l:List α},fT lt l->mH lt (il lt l)
 |[],_=>auS
 |x::l,h=>by
  unfold fT at h
  rw[atE] at h
  exact Im o (qt o h.2) λy u=>h.1 y ((cP l).mem_iff.1 u)
theorem EI(o:JV lt):∀{l u:List α},l.Perm u->mH lt l->mH lt u->l=u
 |[],u,p,_,_=>p.symm.eq_nil.symm
 |x::l,[],p,_,_=>absurd p.eq_nil (by simp)
 |x::l,y::u,p,h,h'=>by
  unfold mH at h h'
  rw[atE] at h h'
  have e:x=y:=by
   rcases asM.1 (p.mem_iff.1 (ass (a:=x))) with e|A
   .exact e
   .rcases asM.1 (p.mem_iff.2 (ass (a:=y))) with e|z
    .exact e.symm
    .have:=o.tr _ _ _ (h.1 y z) (h'.1 x A)
     rw[o.irr] at this;cases this
  subst e
  rw[EI o (List.Perm.cons_inv p) h.2 h'.2]
theorem mH.EJ{l:List α}(h:mH lt l):fT lt l:=h.imp λh=>.inl h
theorem fT.perm{l u:List α}(p:l.Perm u)(h:fT lt l):fT lt u:=p.pairwise h λh=>h.symm
theorem xZ(o:JV lt){l u:List α}(p:l.Perm u)(h:mH lt l):il lt u=l:=EI o ((cP u).trans p.symm) (qt o (h.EJ.perm p)) h
end
instance (x y:Ti):Decidable (tf x y):=by unfold tf;infer_instance
def j7(a b:Cm):Bool:=decide (tf a.ti b.ti)
theorem mU{a b:Cm}:j7 a b=true↔tf a.ti b.ti:=by unfold j7;rw[asy]
theorem BZ:JV j7:=⟨λa=>by
 cases h:j7 a a with
 |false=>rfl
 |true=>rw[mU] at h;unfold tf at h;omega,λa b c h1 u=>by rw[mU] at*;unfold tf at*;omega⟩
def Ca(a b:Cm):Bool:=decide (a.cC<b.cC\/a.cC=b.cC/\(a.right<b.right\/a.right=b.right/\(a.aO<b.aO\/a.aO=b.aO/\a.aH<b.aH)))
theorem XD:JV Ca:=⟨λa=>by unfold Ca;rw[asZ];omega,λa b c h1 u=>by unfold Ca at*;rw[asy] at*;omega⟩
def qu(a b:Od):Bool:=decide (a.aH<b.aH\/a.aH=b.aH/\((a.bP=false/\b.bP=true)\/a.bP=b.bP/\a.index<b.index))
theorem Rk:JV qu:=⟨λa=>by unfold qu;rw[asZ];cases a.bP<;>simp,λa b c h1 u=>by
 unfold qu at*;rw[asy] at*;revert h1 u;cases a.bP<;>cases b.bP<;>cases c.bP<;>simp<;>omega⟩
def cj:List Cm->Nat->Int->Int
 |[],_,_=>0
 |x::l,i,h=>(if x.aO=i/\x.aH=h then x.aC else 0)+cj l i h
def Io(d:aU)(T:Nat->Int->Int):List Od:=(List.range d.aG.toNat).flatMap λ(h:Nat)=>(List.range d.aR.length).filterMap λi=>if T i h=0 then none else some (⟨(h:Int),(i:Int),T i h,true⟩:Od)
def eE(d:aU)(c:List Cm):List Od:=Io d (cj c)
theorem kD{d:aU}{o:Od}:o∈Io d T↔∃h i:Nat,h<d.aG.toNat/\i<d.aR.length/\T i h≠0/\o=⟨h,i,T i h,true⟩:=by
 unfold Io;exact YA
section
variable {α:Type} {enc:α->List Value} {K:Nat}
theorem bz(z:∀x,(enc x).length=K)(s:List α):(s.flatMap enc).length=s.length*K:=by
 induction s with
 |nil=>simp
 |cons a s u=>rw[ata,asu,u,z,as2,aun];omega
theorem ya(hK:∀x,(enc x).length=K)(l:List α)(i:Nat)(rest:aW)(h:i<=l.length):(l.flatMap enc++rest).take (i*K)=(l.take i).flatMap enc:=by
 refine ao9 ?_;intro e hl;rw[e,avd Y,asx Y]
theorem Ol(hK:∀x,(enc x).length=K)(l:List α)(i:Nat)(rest:aW)(h:i<=l.length):(l.flatMap enc++rest).drop (i*K)=(l.drop i).flatMap enc++rest:=by
 refine ao9 ?_;intro e hl;rw[e,<-hl,List.drop_left]
theorem mj(u:∀x,(enc x).length=K){l:List α}{i:Nat}{m:α}{rest:aW}(h:i<l.length):(l.flatMap enc++rest).take (i*K)++enc m++(l.flatMap enc++rest).drop (i*K+K)=(l.set i m).flatMap enc++rest:=by
 rw[ya u _ _ _ Y,show i*K+K=(i+1)*K by rw[aun];omega,Ol u _ _ _ Y,auW,asp h,as7,ata];simp only[as5]
theorem cZ(u:∀x,(enc x).length=K){g:Nat}{t:TypeId}{l:List α}{rest:aW}{m:α}(M:aP w g t (l.flatMap enc++rest))(hm:l[j]? =some m):bF w g (0+j*K) (enc m):=λk v z=>by
 have hk:k<K:=by have:=(asr.1 z).1;rw[u] at this;exact this
 have A:=(asr.1 hm).1;rw[as9];apply M.ai;have e:l.flatMap enc++rest=(l.take j).flatMap enc++(enc m++((l.drop (j+1)).flatMap enc++rest)):=by
  have:l=l.take j++m::l.drop (j+1):=by
   have O:l[j]=m:=by have:=asw A;rw[hm] at this;injection this with this;exact this.symm
   rw[<-O,<-atB A,atk]
  conv=>lhs;rw[this];rw[as7,ata];simp only[as5]
 have J:((l.take j).flatMap enc).length=j*K:=by rw[bz u,asF,ava Y]
 rw[e,asY Y,J,show j*K+k-j*K=k from Y,asR (by rw[u];exact hk)];exact z
variable {lt:α->α->Bool}
def mI(lt:α->α->Bool)(x:α)(p:List α):Nat->List α
 |0=>x::p
 |j+1=>match p[j]? with
  |some y=>if lt x y then mI lt x p j else p.take (j+1)++x::p.drop (j+1)
  |none=>p.take (j+1)++x::p.drop (j+1)
def rV(lt:α->α->Bool)(l:List α):List α:=l.foldl (λp x=>mI lt x p p.length) []
theorem EK(x:α)(p:List α):∀j,(mI lt x p j).Perm (x::p)
 |0=>.refl _
 |j+1=>by
  have e:(p.take (j+1)++x::p.drop (j+1)).Perm (x::p):=by
   have:=List.perm_middle (a:=x) (l₁:=p.take (j+1)) (l₂:=p.drop (j+1))
   rwa [atk] at this
  unfold mI
  split
  .split
   .exact EK x p j
   .exact e
  .exact e
theorem Ip{l:List α}{i:Nat}{x:α}(h:l[i]? =some x):rV lt (l.take (i+1))=mI lt x (rV lt (l.take i)) (rV lt (l.take i)).length:=by
 unfold rV;rw[asD,h,aud];rfl
theorem rW:∀l:List α,(rV lt l).Perm l:=λl=>by
 have:∀(k:List α) (p:List α),(k.foldl (λp x=>mI lt x p p.length) p).Perm (k++p):=λk=>by
  induction k with
  |nil=>exactλp=>.refl _
  |cons x k u=>exactλp=>(u _).trans (((EK x p _).append_left k).trans List.perm_middle)
 have h:=this l [];rwa [asT] at h
theorem oF(l:List α):(rV lt l).length=l.length:=(rW l).length_eq
theorem EL{x y:α}{p r:List α}(z:p[j]? =some y):(((p.take (j+1)++x::p.drop (j+1))++r).set (j+1) y).set j x=(p.take j++x::p.drop j)++r:=by
 have A:=(asr.1 z).1;have J:=(asr.1 z).2;have O:p.take (j+1)=p.take j++[y]:=by rw[asD,z];rfl
 have M:p.drop j=y::p.drop (j+1):=by rw[atB A,J]
 have u:(p.take j).length=j:=Yg;rw[O,M];simp only[as5,atC,auy];rw[avk _ _ Y,u,show j+1-j=1 from Y,avk _ _ Y,u,aug];rfl
end
section
open Go.Sort Go.Shelf Classical
section
variable {α:Type} {enc:α->List Value} {K:Nat}
theorem Iq(u:∀x,(enc x).length=K):∀{s:List α} {j:Nat} {x:α} (m:Nat),s[j]? =some x->m<K->(s.flatMap enc)[j*K+m]? =(enc x)[m]?
 |[],j,x,m,h,_=>by simp at h
 |a::s,0,x,m,h,hm=>by
  simp at h;subst h
  rw[ata,avW,as9,asR (by rw[u];exact hm)]
 |a::s,j+1,x,m,h,hm=>by
  rw[ata,asY (by rw[u,aun];omega),show(j+1)*K+m-(enc a).length=j*K+m from by rw[u,aun];omega]
  exact Iq u m (by simpa using h) hm
variable [Inhabited α]
theorem Ir(z:∀x,(enc x).length=K){d:Array α}{t:Nat}(h:t<d.size*K):some ((flatK enc K d)[t]!)=(d.toList.flatMap enc)[t]? :=by
 rw[get_flatK enc K d t h];have u:0<K:=Yg;have A:=(Nat.div_lt_iff_lt_mul u).2 h;have hm:=Nat.mod_lt t u;have e:=Iq z (s:=d.toList) (j:=t/K) (x:=d[t/K]) (t%K) (by rw[avf,atP A]) hm;rw[show t/K*K+t%K=t by rw[Nat.mul_comm];exact Nat.div_add_mod t K] at e;rw[e,auZ d (t/K) A,auZ (enc d[t/K]) (t%K) (by rw[z];exact hm),asw (by rw[z];exact hm)]
variable {w:World} {g n:Nat} {t:TypeId} {s:List α} {rest:List Value} {d:Array α} {os:Array Obj}
theorem Cb(hK:∀x,(enc x).length=K)(h:aP w g t (s.flatMap enc++rest)):HoldsK enc K w g 0 s.toArray:=by
 intro j hj;rw[size_flatK] at hj;refine⟨?_,h.frozen _⟩;have e:=Ir hK hj;show w.cell? (ad g (0+j))=some (flatK enc K s.toArray)[j]!;rw[e,as9];have hj':j<(s.flatMap enc).length:=Yg;exact Yi
theorem Om(z:∀x,(enc x).length=K)(h:aP w g t (s.flatMap enc++rest))(hd:d.size=s.length):aP (sortWorldK enc K w g 0 n d os) g t (d.toList.flatMap enc++rest):=by
 have u:=h.lt;unfold aP at h;show((w.heap.modify g (onCells (putCells id 0 (flatK enc K d))))++os)[g]? =_;rw[atZ (by simpa using u),avg,asp U,h];show some (Obj.cells (putCells id 0 (flatK enc K d) (s.flatMap enc++rest).toArray) t (0,0))=some (Obj.cells (d.toList.flatMap enc++rest).toArray t (0,0));have key:putCells id 0 (flatK enc K d) (s.flatMap enc++rest).toArray=(d.toList.flatMap enc++rest).toArray:=by
  apply Array.ext_getElem?;intro j;unfold putCells;rw[Array.getElem?_mapIdx,avh,avh];have l1:=bz z s;have l2:(d.toList.flatMap enc).length=s.length*K:=by rw[bz z];simp[hd]
  by_cases A:j<s.length*K
  .rw[asR Y,asR Y,asw Y];show some (if _ then _ else _)=_;rw[asp (by rw[size_flatK,hd];omega),aup];exact Ir z (by rw[hd];exact A)
  .rw[asY Y,asY Y,l1,l2];cases J:rest[j-s.length*K]? with
   |none=>rfl
   |some v=>
    show some (if _ then _ else _)=_;rw[aso (by rw[size_flatK,hd];omega)]
 rw[key]
theorem Cc:aj (λb=>b≠g) w (sortWorldK enc K w g 0 n d os):=by
 exact aon
def Rl(P:Program)(enc:α->aW)(cf:α->α->Int)(fn:FuncId)(caps:Array Value)(g:Nat)(w:World):Prop:=∀(u:World),aj (λb=>b≠g) w (z u)->∀x y:α,Calls P fn (#[.agg (enc x).toArray,.agg (enc y).toArray]++caps) u λe w'=>e=.returned (.int .i64 (cf x y))/\∃q os',w'=grow (u.drewN q) os'
variable {P:Program}
set_option maxRecDepth 100000 in
theorem qv{ρ:Ren}(L:SlLaysF0.n6 P ρ)(aE:∀w,(isAgg (ρ.t 24)).run P w=.ok true w)(zE:∀w,(Go.sizeOf (ρ.t 24)).run P w=.ok K w)(hK:∀x,(enc x).length=K)(h1:∀x,∀v∈enc x,v.oneCell'=true){cf:α->α->Int}(hO:SWO (ltOf cf)){fn:FuncId}{caps:Array Value}(O:∀args w,(callFunc fn args).run P w=.ok (.enter fn args) w)(hc:Rl P enc cf fn caps g w){c:Nat}(hb:aP w g t (s.flatMap enc++rest))(hl:s.length<=1000000):aK P (ρ.f 6) #[aB (aL g) s.length c,.func (.func fn) #[] caps] w (λv w'=>v=.tuple #[]/\∃s':List α,s'.Perm s/\s'.Pairwise (λa b=>ltOf cf b a=false)/\aP w' g t (s'.flatMap enc++rest)/\aj (λb=>b≠g) w w'):=by
 intro w0 hw;subst hw;refine apg ?_;intro hlays;have J:=AnyQ.slices_SortFunc L K aE zE enc hK h1 cf hO fn caps g 0 c s.toArray w0 O hlays (Cb hK (w:=w0) hb) hb.lt (by simp;omega);rw[show s.toArray.size=s.length from auk ..] at J;apply J.mono;rintro e w' ⟨rfl,d',m,os,hp,hso,rfl⟩;exact aoz
end
section
variable {α:Type}
theorem uR{lt:α->α->Bool}(o:JV lt){J:α->α->Int}(he:∀x y,ltOf J x y=lt x y){s z:List α}(p:z.Perm s)(hd:fT lt s)(h:z.Pairwise λa b=>ltOf J b a=false):z=il lt s:=by
 have u:=hd.perm p.symm;refine(xZ o p ?_).symm;unfold mH;unfold fT at u;refine(u.and h).imp λ{a b} A=>?_;rcases A.1 with q|q
 .exact q
 .exact Yg
end
end
section
open Go.Sort
theorem abB(a0 a1 r:Int)(hr0:a0≠0->r=a0)(hr1:a0=0->r=a1)(g:Nat)(W:World)(h0:W.cell? ⟨g,0,none⟩=some (.int .i64 a0))(h1:W.cell? ⟨g,1,none⟩=some (.int .i64 a1)):Calls prog 92 #[.slice (some ⟨g,0,none⟩) 2 2] W λe w'=>e=.returned (.int .i64 r)/\w'=W:=by
 go_enter func92,Tryz.ntmps92
 go_wp2
 go_loop [8] (λi=>∃k:Nat,k<=2/\i=.int .i64 k/\(1<=k->a0=0)/\(2<=k->a1=0)) λi=>2-(Go.RowKit.intOf i).toNat
 case atStart=>exact⟨0,Y,rfl,Y,Y⟩
 case round=>
  obtain⟨k,hk,rfl,z0,z1⟩:=hrel
  exact g_7
theorem abC(a0 a1 a2 r : Int)(hr0 : a0 ≠ 0 -> r = a0)(hr1 : a0 = 0 -> a1 ≠ 0 -> r = a1)(hr2 : a0 = 0 -> a1 = 0 -> r = a2)(g : Nat)(W : World)(h0 : W.cell? ⟨g, 0, none⟩ = some (.int .i64 a0))(h1 : W.cell? ⟨g, 1, none⟩ = some (.int .i64 a1))(h2 : W.cell? ⟨g, 2, none⟩ = some (.int .i64 a2)) : Calls prog 92 #[.slice (some ⟨g, 0, none⟩) 3 3] W λ e w' => e = .returned (.int .i64 r) /\ w' = W := by
  go_enter func92, Tryz.ntmps92
  go_wp2
  go_loop [8] (λ i => ∃ k : Nat, k <= 3 /\ i = .int .i64 k /\ (1 <= k -> a0 = 0) /\ (2 <= k -> a1 = 0) /\ (3 <= k -> a2 = 0)) λ i => 3 - (Go.RowKit.intOf i).toNat
  case atStart => exact ⟨0, Y, rfl, Y, Y, Y⟩
  case round =>
    obtain ⟨k, hk, rfl, z0, z1, z2⟩ := hrel
    have hk3 : k = 0 \/ k = 1 \/ k = 2 \/ k = 3 := Y
    rcases hk3 with rfl | rfl | rfl | rfl
    · skip
      go_wp2
      all_goals first
        | (have h : a0 ≠ 0 := (by have := ‹(a0 != 0) = true›; simpa using this); go_ret; refine ⟨congrArg Ending.returned ?_, rfl⟩; first | rfl | (show Value.int .i64 a0 = .int .i64 r; rw [hr0  h]))
        | (have h : a0 = 0 := by first | assumption | (have := ‹(a0 != 0) = false›; simpa using this)
           go_round
           case rel => exact ⟨1, Y, rfl, λ _ => h, Y, Y⟩
           case measure => simp [Go.RowKit.intOf])
    · skip
      have z0 := z0 Y
      go_wp2
      all_goals first
        | (have h : a1 ≠ 0 := (by have := ‹(a1 != 0) = true›; simpa using this); go_ret; refine ⟨congrArg Ending.returned ?_, rfl⟩; first | rfl | (show Value.int .i64 a1 = .int .i64 r; rw [hr1 z0 h]))
        | (have h : a1 = 0 := by first | assumption | (have := ‹(a1 != 0) = false›; simpa using this)
           go_round
           case rel => exact ⟨2, Y, rfl, λ _ => z0, λ _ => h, Y⟩
           case measure => simp [Go.RowKit.intOf])
    · skip
      have z0 := z0 Y
      have z1 := z1 Y
      go_wp2
      all_goals first
        | (have h : a2 ≠ 0 := (by have := ‹(a2 != 0) = true›; simpa using this); go_ret; refine ⟨congrArg Ending.returned ?_, rfl⟩; first | rfl | (show Value.int .i64 a2 = .int .i64 r; rw [hr2 z0 z1]))
        | (have h : a2 = 0 := by first | assumption | (have := ‹(a2 != 0) = false›; simpa using this)
           go_round
           case rel => exact ⟨3, Y, rfl, λ _ => z0, λ _ => z1, λ _ => h⟩
           case measure => simp [Go.RowKit.intOf])
    · skip
      have z0 := z0 Y
      have z1 := z1 Y
      have z2 := z2 Y
      go_wp2
      go_ret
      refine ⟨congrArg Ending.returned ?_, rfl⟩
      have e := (hr2 z0 z1).trans z2
      first | rfl | (show Value.int .i64 0 = .int .i64 r; rw [e]) | (show Value.int .i64 0 = .int .i64 a2; rw [z2])
theorem abD(a0 a1 r:Int)(hr0:a0≠0->r=a0)(hr1:a0=0->r=a1)(g:Nat)(W:World)(h0:W.cell? ⟨g,0,none⟩=some (.int .i64 a0))(h1:W.cell? ⟨g,1,none⟩=some (.int .i64 a1)):Calls prog 310 #[.slice (some ⟨g,0,none⟩) 2 2] W λe w'=>e=.returned (.int .i64 r)/\w'=W:=by
 go_enter func310,Tryz.ntmps310
 go_wp2
 go_loop [7] (λi=>∃k:Nat,k<=2/\i=.int .i64 k/\(1<=k->a0=0)/\(2<=k->a1=0)) λi=>2-(Go.RowKit.intOf i).toNat
 case atStart=>exact⟨0,Y,rfl,Y,Y⟩
 case round=>
  obtain⟨k,hk,rfl,z0,z1⟩:=hrel
  exact g_7
theorem abE(a0 a1 a2 a3 r : Int)(hr0 : a0 ≠ 0 -> r = a0)(hr1 : a0 = 0 -> a1 ≠ 0 -> r = a1)(hr2 : a0 = 0 -> a1 = 0 -> a2 ≠ 0 -> r = a2)(hr3 : a0 = 0 -> a1 = 0 -> a2 = 0 -> r = a3)(g : Nat)(W : World)(h0 : W.cell? ⟨g, 0, none⟩ = some (.int .i64 a0))(h1 : W.cell? ⟨g, 1, none⟩ = some (.int .i64 a1))(h2 : W.cell? ⟨g, 2, none⟩ = some (.int .i64 a2))(h3 : W.cell? ⟨g, 3, none⟩ = some (.int .i64 a3)) : Calls prog 232 #[.slice (some ⟨g, 0, none⟩) 4 4] W λ e w' => e = .returned (.int .i64 r) /\ w' = W := by
  go_enter func232, Tryz.ntmps232
  go_wp2
  go_loop [7] (λ i => ∃ k : Nat, k <= 4 /\ i = .int .i64 k /\ (1 <= k -> a0 = 0) /\ (2 <= k -> a1 = 0) /\ (3 <= k -> a2 = 0) /\ (4 <= k -> a3 = 0)) λ i => 4 - (Go.RowKit.intOf i).toNat
  case atStart => exact ⟨0, Y, rfl, Y, Y, Y, Y⟩
  case round =>
    obtain ⟨k, hk, rfl, z0, z1, z2, z3⟩ := hrel
    have hk3 : k = 0 \/ k = 1 \/ k = 2 \/ k = 3 \/ k = 4 := Y
    rcases hk3 with rfl | rfl | rfl | rfl | rfl
    · skip
      go_wp2
      all_goals first
        | (have h : a0 ≠ 0 := (by have := ‹(a0 != 0) = true›; simpa using this); go_ret; refine ⟨congrArg Ending.returned ?_, rfl⟩; first | rfl | (show Value.int .i64 a0 = .int .i64 r; rw [hr0  h]))
        | (have h : a0 = 0 := by first | assumption | (have := ‹(a0 != 0) = false›; simpa using this)
           go_round
           case rel => exact ⟨1, Y, rfl, λ _ => h, Y, Y, Y⟩
           case measure => simp [Go.RowKit.intOf])
    · skip
      have z0 := z0 Y
      go_wp2
      all_goals first
        | (have h : a1 ≠ 0 := (by have := ‹(a1 != 0) = true›; simpa using this); go_ret; refine ⟨congrArg Ending.returned ?_, rfl⟩; first | rfl | (show Value.int .i64 a1 = .int .i64 r; rw [hr1 z0 h]))
        | (have h : a1 = 0 := by first | assumption | (have := ‹(a1 != 0) = false›; simpa using this)
           go_round
           case rel => exact ⟨2, Y, rfl, λ _ => z0, λ _ => h, Y, Y⟩
           case measure => simp [Go.RowKit.intOf])
    · skip
      have z0 := z0 Y
      have z1 := z1 Y
      go_wp2
      all_goals first
        | (have h : a2 ≠ 0 := (by have := ‹(a2 != 0) = true›; simpa using this); go_ret; refine ⟨congrArg Ending.returned ?_, rfl⟩; first | rfl | (show Value.int .i64 a2 = .int .i64 r; rw [hr2 z0 z1 h]))
        | (have h : a2 = 0 := by first | assumption | (have := ‹(a2 != 0) = false›; simpa using this)
           go_round
           case rel => exact ⟨3, Y, rfl, λ _ => z0, λ _ => z1, λ _ => h, Y⟩
           case measure => simp [Go.RowKit.intOf])
    · skip
      have z0 := z0 Y
      have z1 := z1 Y
      have z2 := z2 Y
      go_wp2
      all_goals first
        | (have h : a3 ≠ 0 := (by have := ‹(a3 != 0) = true›; simpa using this); go_ret; refine ⟨congrArg Ending.returned ?_, rfl⟩; first | rfl | (show Value.int .i64 a3 = .int .i64 r; rw [hr3 z0 z1 z2]))
        | (have h : a3 = 0 := by first | assumption | (have := ‹(a3 != 0) = false›; simpa using this)
           go_round
           case rel => exact ⟨4, Y, rfl, λ _ => z0, λ _ => z1, λ _ => z2, λ _ => h⟩
           case measure => simp [Go.RowKit.intOf])
    · skip
      have z0 := z0 Y
      have z1 := z1 Y
      have z2 := z2 Y
      have z3 := z3 Y
      go_wp2
      go_ret
      refine ⟨congrArg Ending.returned ?_, rfl⟩
      have e := (hr3 z0 z1 z2).trans z3
      first | rfl | (show Value.int .i64 0 = .int .i64 r; rw [e]) | (show Value.int .i64 0 = .int .i64 a3; rw [z3])
set_option maxRecDepth 100000 in
set_option maxHeartbeats 2000000 in
theorem amV(x0 x1 x2 x3 y0 y1 y2 y3:Int)(W:World):Calls prog 102 #[.agg #[.int .i64 x0,.int .i64 x1,.int .i64 x2,.int .i64 x3],.agg #[.int .i64 y0,.int .i64 y1,.int .i64 y2,.int .i64 y3]] W λe w'=>e=.returned (.int .i64 (if cx x0 y0≠0 then cx x0 y0 else cx x1 y1))/\∃q os',w'=grow (W.drewN q) os':=by
 refine adH ?_;intro r hr c0 hc0 c1 hc1
 rw[<-hc0,<-hc1] at hr
 refine adK ?_;intro hr0 hr1 k0
 rw[<-hc0] at k0
 have k1:=λW=>eI x1 y1 W
 rw[<-hc1] at k1
 have hf:Calls prog 102 #[.agg #[.int .i64 x0,.int .i64 x1,.int .i64 x2,.int .i64 x3],.agg #[.int .i64 y0,.int .i64 y1,.int .i64 y2,.int .i64 y3]] W λe w'=>e=.returned (.int .i64 r)/\∃q os',w'=grow (W.drewN q) os':=by
  clear hr hc0 hc1
  go_enter func102,Tryz.ntmps102
  go_wp2
  have hm:Tryz.prog.follows .mixedOrders=true:=Z
  obtain⟨W1,hW1⟩:∃W1,W1=(W.alloc (Obj.cells #[Value.int IntKind.i64 x0,Value.int IntKind.i64 x1,Value.int IntKind.i64 x2,Value.int IntKind.i64 x3] 124)).alloc (Obj.cells #[Value.int IntKind.i64 y0,Value.int IntKind.i64 y1,Value.int IntKind.i64 y2,Value.int IntKind.i64 y3] 124):=⟨_,rfl⟩
  rw[<-hW1]
  have B0:aP W1 W.heap.size 124 [.int .i64 x0,.int .i64 x1,.int .i64 x2,.int .i64 x3]:=by rw[hW1];exact(aP.new W 124 [.int .i64 x0,.int .i64 x1,.int .i64 x2,.int .i64 x3]).ae (aj.alloc _ _ _)
  have B1:aP W1 (W.heap.size+1) 124 [.int .i64 y0,.int .i64 y1,.int .i64 y2,.int .i64 y3]:=by
   rw[hW1]
   have:=aP.new (W.alloc (Obj.cells #[Value.int IntKind.i64 x0,Value.int IntKind.i64 x1,Value.int IntKind.i64 x2,Value.int IntKind.i64 x3] 124)) 124 [.int .i64 y0,.int .i64 y1,.int .i64 y2,.int .i64 y3]
   rwa [show(W.alloc (Obj.cells #[Value.int IntKind.i64 x0,Value.int IntKind.i64 x1,Value.int IntKind.i64 x2,Value.int IntKind.i64 x3] 124)).heap.size=W.heap.size+1 from at5 ..] at this
  have hsz1:W1.heap.size=W.heap.size+2:=by
   rw[hW1]
   exact TU
  have hrel:∀o,∃q os',({W1 with drawn:=W1.drawn+1}:World).alloc o=grow (W.drewN q) os':=λo=>⟨1,#[(Obj.cells #[Value.int IntKind.i64 x0,Value.int IntKind.i64 x1,Value.int IntKind.i64 x2,Value.int IntKind.i64 x3] 124),(Obj.cells #[Value.int IntKind.i64 y0,Value.int IntKind.i64 y1,Value.int IntKind.i64 y2,Value.int IntKind.i64 y3] 124),o],by
   rw[hW1]
   show({heap:=((W.heap.push _).push _).push o,tape:=W.tape,drawn:=W.drawn+1,os:=W.os,output:=W.output}:World)={heap:=W.heap++_,tape:=W.tape,drawn:=W.drawn+1,os:=W.os,output:=W.output}
   congr 1⟩
  apply auU 10 hm Z
  simp only[atF,atg,auB,at3]
  refine Ul ?_;intro W2 hW2 f0 f1 f2
  have f3:W2.cell? ⟨W.heap.size,3,none⟩=some (.int .i64 x3):=by rw[hW2];exact B0.ai rfl
  refine Um ?_;intro g0 g1 g2
  have g3:W2.cell? ⟨W.heap.size+1,3,none⟩=some (.int .i64 y3):=by rw[hW2];exact B1.ai rfl
  have hsz:W2.heap.size=W.heap.size+2:=by rw[hW2];exact hsz1
  rw[<-hW2] at hrel
  clear hW2 B0 B1 hsz1 hW1
  clear W1
  iterate 4 still_step
  still_call (k0 _)
  iterate 4 still_step
  still_call (k1 _)
  refine apd ?_;intro hn kk hrel
  clear hn hsz hr0 hr1 f0 g0 f1 g1 f2 g2 f3 g3 k0 k1
  go_wp2_with (go_at_call 92;refine kk.mono ?_;rintro e w' ⟨rfl,rfl⟩)
  clear kk
  go_wp2
  go_ret
  exact⟨rfl,hrel⟩
 rw[hr,hc0,hc1] at hf
 exact hf
set_option maxRecDepth 100000 in
set_option maxHeartbeats 2000000 in
theorem Vh(x0 x1 x2 x3 x4 y0 y1 y2 y3 y4:Int)(W:World):Calls prog 328 #[.agg #[.int .i64 x0,.int .i64 x1,.int .i64 x2,.int .i64 x3,.int .i64 x4],.agg #[.int .i64 y0,.int .i64 y1,.int .i64 y2,.int .i64 y3,.int .i64 y4]] W λe w'=>e=.returned (.int .i64 (if cx x4 y4≠0 then cx x4 y4 else if cx x0 y0≠0 then cx x0 y0 else cx x1 y1))/\∃q os',w'=grow (W.drewN q) os':=by
 obtain⟨r,hr⟩:∃r,r=(if cx x4 y4≠0 then cx x4 y4 else if cx x0 y0≠0 then cx x0 y0 else cx x1 y1):=⟨_,rfl⟩
 obtain⟨c0,hc0⟩:∃c,c=cx x4 y4:=⟨_,rfl⟩
 obtain⟨c1,hc1⟩:∃c,c=cx x0 y0:=⟨_,rfl⟩
 obtain⟨c2,hc2⟩:∃c,c=cx x1 y1:=⟨_,rfl⟩
 rw[<-hc0,<-hc1,<-hc2] at hr
 have hr0:c0≠0->r=c0:=by
  intro e0
  rw[hr,asp e0]
 have hr1:c0=0->c1≠0->r=c1:=by
  intro e0 e1
  rw[hr,aso (by simp[e0]),asp e1]
 have hr2:c0=0->c1=0->r=c2:=by
  intro e0 e1
  rw[hr,aso (by simp[e0]),aso (by simp[e1])]
 have k0:=λW=>eI x4 y4 W
 rw[<-hc0] at k0
 have k1:=λW=>eI x0 y0 W
 rw[<-hc1] at k1
 have k2:=λW=>eI x1 y1 W
 rw[<-hc2] at k2
 have hf:Calls prog 328 #[.agg #[.int .i64 x0,.int .i64 x1,.int .i64 x2,.int .i64 x3,.int .i64 x4],.agg #[.int .i64 y0,.int .i64 y1,.int .i64 y2,.int .i64 y3,.int .i64 y4]] W λe w'=>e=.returned (.int .i64 r)/\∃q os',w'=grow (W.drewN q) os':=by
  clear hr hc0 hc1 hc2
  go_enter func328,Tryz.ntmps328
  go_wp2
  refine s_4 ?_;intro hm W1 hW1 B0 B1 hsz1 hrel
  apply auU 15 hm Z
  simp only[atF,atg,auB,at3]
  refine Ul ?_;intro W2 hW2 f0 f1 f2
  refine Zm ?_;intro f3 f4
  refine Um ?_;intro g0 g1 g2
  refine ape ?_;intro g3 g4 hsz
  rw[<-hW2] at hrel
  clear hW2 B0 B1 hsz1 hW1
  clear W1
  iterate 4 still_step
  still_call (k0 _)
  iterate 4 still_step
  still_call (k1 _)
  iterate 4 still_step
  still_call (k2 _)
  apply av7
  have hn:=aP.new W2 3 [.int .i64 c0,.int .i64 c1,.int .i64 c2]
  have kk:=abC c0 c1 c2 r hr0 hr1 hr2 W2.heap.size (W2.alloc (Obj.cells #[.int .i64 c0,.int .i64 c1,.int .i64 c2] 3)) (hn.ai rfl) (hn.ai rfl) (hn.ai rfl)
  have hrel:=hrel (Obj.cells #[.int .i64 c0,.int .i64 c1,.int .i64 c2] 3)
  clear hn hsz hr0 hr1 hr2 f0 g0 f1 g1 f2 g2 f3 g3 f4 g4 k0 k1 k2
  go_wp2_with (go_at_call 92;refine kk.mono ?_;rintro e w' ⟨rfl,rfl⟩)
  clear kk
  go_wp2
  go_ret
  exact⟨rfl,hrel⟩
 rw[hr,hc0,hc1,hc2] at hf
 exact hf
set_option maxRecDepth 100000 in
set_option maxHeartbeats 2000000 in
theorem abF(x0 x1 x2 y0 y1 y2:Int)(x3 y3:Bool)(W:World):Calls prog 91 #[.agg #[.int .i64 x0,.int .i64 x1,.int .i64 x2,.bool x3],.agg #[.int .i64 y0,.int .i64 y1,.int .i64 y2,.bool y3]] W λe w'=>e=.returned (.int .i64 (if cx x0 y0≠0 then cx x0 y0 else cx x1 y1))/\∃q os',w'=grow (W.drewN q) os':=by
 refine adH ?_;intro r hr c0 hc0 c1 hc1
 rw[<-hc0,<-hc1] at hr
 refine adK ?_;intro hr0 hr1 k0
 rw[<-hc0] at k0
 have k1:=λW=>eI x1 y1 W
 rw[<-hc1] at k1
 have hf:Calls prog 91 #[.agg #[.int .i64 x0,.int .i64 x1,.int .i64 x2,.bool x3],.agg #[.int .i64 y0,.int .i64 y1,.int .i64 y2,.bool y3]] W λe w'=>e=.returned (.int .i64 r)/\∃q os',w'=grow (W.drewN q) os':=by
  clear hr hc0 hc1
  go_enter func91,Tryz.ntmps91
  go_wp2
  refine s_5 ?_;intro hm W1 hW1 B0 B1 hsz1 hrel
  simp only[atF,atg,auB,at3]
  refine Ul ?_;intro W2 hW2 f0 f1 f2
  have f3:W2.cell? ⟨W.heap.size,3,none⟩=some (.bool x3):=by rw[hW2];exact B0.ai rfl
  refine Um ?_;intro g0 g1 g2
  refine Zv ?_;intro g3 hsz
  rw[<-hW2] at hrel
  clear hW2 B0 B1 hsz1 hW1
  clear W1
  iterate 4 still_step
  still_call (k0 _)
  iterate 4 still_step
  still_call (k1 _)
  refine apd ?_;intro hn kk hrel
  clear hn hsz hr0 hr1 f0 g0 f1 g1 f2 g2 f3 g3 k0 k1
  go_wp2_with (go_at_call 92;refine kk.mono ?_;rintro e w' ⟨rfl,rfl⟩)
  clear kk
  go_wp2
  go_ret
  exact⟨rfl,hrel⟩
 rw[hr,hc0,hc1] at hf
 exact hf
set_option maxRecDepth 100000 in
set_option maxHeartbeats 2000000 in
theorem Vi(x0 x1 x2 y0 y1 y2:Int)(x3 y3:Bool)(W:World):Calls prog 367 #[.agg #[.int .i64 x0,.int .i64 x1,.int .i64 x2,.bool x3],.agg #[.int .i64 y0,.int .i64 y1,.int .i64 y2,.bool y3]] W λe w'=>e=.returned (.int .i64 (if cx x0 y0≠0 then cx x0 y0 else cx x1 y1))/\∃q os',w'=grow (W.drewN q) os':=by
 refine adH ?_;intro r hr c0 hc0 c1 hc1
 rw[<-hc0,<-hc1] at hr
 refine adK ?_;intro hr0 hr1 k0
 rw[<-hc0] at k0
 have k1:=λW=>eI x1 y1 W
 rw[<-hc1] at k1
 have hf:Calls prog 367 #[.agg #[.int .i64 x0,.int .i64 x1,.int .i64 x2,.bool x3],.agg #[.int .i64 y0,.int .i64 y1,.int .i64 y2,.bool y3]] W λe w'=>e=.returned (.int .i64 r)/\∃q os',w'=grow (W.drewN q) os':=by
  clear hr hc0 hc1
  go_enter func367,Tryz.ntmps367
  go_wp2
  refine s_5 ?_;intro hm W1 hW1 B0 B1 hsz1 hrel
  simp only[atF,atg,auB,at3]
  refine Ul ?_;intro W2 hW2 f0 f1 f2
  have f3:W2.cell? ⟨W.heap.size,3,none⟩=some (.bool x3):=by rw[hW2];exact B0.ai rfl
  refine Um ?_;intro g0 g1 g2
  refine Zv ?_;intro g3 hsz
  rw[<-hW2] at hrel
  clear hW2 B0 B1 hsz1 hW1
  clear W1
  iterate 4 still_step
  still_call (k0 _)
  iterate 4 still_step
  still_call (k1 _)
  apply av7
  have hn:=aP.new W2 3 [.int .i64 c0,.int .i64 c1]
  have kk:=abD c0 c1 r hr0 hr1 W2.heap.size (W2.alloc (Obj.cells #[.int .i64 c0,.int .i64 c1] 3)) (hn.ai rfl) (hn.ai rfl)
  have hrel:=hrel (Obj.cells #[.int .i64 c0,.int .i64 c1] 3)
  clear hn hsz hr0 hr1 f0 g0 f1 g1 f2 g2 f3 g3 k0 k1
  go_wp2_with (go_at_call 310;refine kk.mono ?_;rintro e w' ⟨rfl,rfl⟩)
  clear kk
  go_wp2
  go_ret
  exact⟨rfl,hrel⟩
 rw[hr,hc0,hc1] at hf
 exact hf
set_option maxRecDepth 100000 in
set_option maxHeartbeats 2000000 in
theorem abG(x0 x1 x2 x3 x4 y0 y1 y2 y3 y4:Int)(W:World):Calls prog 160 #[.agg #[.int .i64 x0,.int .i64 x1,.int .i64 x2,.int .i64 x3,.int .i64 x4],.agg #[.int .i64 y0,.int .i64 y1,.int .i64 y2,.int .i64 y3,.int .i64 y4]] W λe w'=>e=.returned (.int .i64 (if cx x2 y2≠0 then cx x2 y2 else if cx x4 y4≠0 then cx x4 y4 else if cx x0 y0≠0 then cx x0 y0 else cx x1 y1))/\∃q os',w'=grow (W.drewN q) os':=by
 obtain⟨r,hr⟩:∃r,r=(if cx x2 y2≠0 then cx x2 y2 else if cx x4 y4≠0 then cx x4 y4 else if cx x0 y0≠0 then cx x0 y0 else cx x1 y1):=⟨_,rfl⟩
 obtain⟨c0,hc0⟩:∃c,c=cx x2 y2:=⟨_,rfl⟩
 obtain⟨c1,hc1⟩:∃c,c=cx x4 y4:=⟨_,rfl⟩
 obtain⟨c2,hc2⟩:∃c,c=cx x0 y0:=⟨_,rfl⟩
 obtain⟨c3,hc3⟩:∃c,c=cx x1 y1:=⟨_,rfl⟩
 rw[<-hc0,<-hc1,<-hc2,<-hc3] at hr
 have hr0:c0≠0->r=c0:=Yg
 have hr1:c0=0->c1≠0->r=c1:=by
  intro e0 e1
  rw[hr,aso (by simp[e0]),asp e1]
 have hr2:c0=0->c1=0->c2≠0->r=c2:=by
  intro e0 e1 e2
  rw[hr,aso (by simp[e0]),aso (by simp[e1]),asp e2]
 have hr3:c0=0->c1=0->c2=0->r=c3:=by
  intro e0 e1 e2
  rw[hr,aso (by simp[e0]),aso (by simp[e1]),aso (by simp[e2])]
 have k0:=λW=>eI x2 y2 W
 rw[<-hc0] at k0
 have k1:=λW=>eI x4 y4 W
 rw[<-hc1] at k1
 have k2:=λW=>eI x0 y0 W
 rw[<-hc2] at k2
 have k3:=λW=>eI x1 y1 W
 rw[<-hc3] at k3
 have hf:Calls prog 160 #[.agg #[.int .i64 x0,.int .i64 x1,.int .i64 x2,.int .i64 x3,.int .i64 x4],.agg #[.int .i64 y0,.int .i64 y1,.int .i64 y2,.int .i64 y3,.int .i64 y4]] W λe w'=>e=.returned (.int .i64 r)/\∃q os',w'=grow (W.drewN q) os':=by
  clear hr hc0 hc1 hc2 hc3
  go_enter func160,Tryz.ntmps160
  go_wp2
  refine s_4 ?_;intro hm W1 hW1 B0 B1 hsz1 hrel
  apply auU 20 hm Z
  simp only[atF,atg,auB,at3]
  refine Ul ?_;intro W2 hW2 f0 f1 f2
  refine Zm ?_;intro f3 f4
  refine Um ?_;intro g0 g1 g2
  refine ape ?_;intro g3 g4 hsz
  rw[<-hW2] at hrel
  clear hW2 B0 B1 hsz1 hW1
  clear W1
  iterate 4 still_step
  still_call (k0 _)
  iterate 4 still_step
  still_call (k1 _)
  iterate 4 still_step
  still_call (k2 _)
  iterate 4 still_step
  still_call (k3 _)
  apply av7
  have hn:=aP.new W2 3 [.int .i64 c0,.int .i64 c1,.int .i64 c2,.int .i64 c3]
  have kk:=abE c0 c1 c2 c3 r hr0 hr1 hr2 hr3 W2.heap.size (W2.alloc (Obj.cells #[.int .i64 c0,.int .i64 c1,.int .i64 c2,.int .i64 c3] 3)) (hn.ai rfl) (hn.ai rfl) (hn.ai rfl) (hn.ai rfl)
  have hrel:=hrel (Obj.cells #[.int .i64 c0,.int .i64 c1,.int .i64 c2,.int .i64 c3] 3)
  clear hn hsz hr0 hr1 hr2 hr3 f0 g0 f1 g1 f2 g2 f3 g3 f4 g4 k0 k1 k2 k3
  go_wp2_with (go_at_call 232;refine kk.mono ?_;rintro e w' ⟨rfl,rfl⟩)
  clear kk
  go_wp2
  go_ret
  exact⟨rfl,hrel⟩
 rw[hr,hc0,hc1,hc2,hc3] at hf
 exact hf
end
end Go.Proofs.YtakcjkbnfegidaaGreat
namespace Go.Proofs
open Go.Shelf Go.RowKit Go.Lib Go.Sort
shelf_lay_g SlLaysF0.n6 Slsf 6 at Tryz 101 as Tryz.hsort
#print axioms Tryz.hsort
end Go.Proofs
namespace Go.Proofs
open Go.Shelf Go.RowKit Go.Lib Go.Sort
shelf_lay_g SlLaysF0.n6 Slsf 6 at Tryz 318 as Tryz.fsort
#print axioms Tryz.fsort
end Go.Proofs
namespace Go.Proofs
open Go.Shelf Go.RowKit Go.Lib Go.Sort
shelf_lay_g SlLaysF0.n6 Slsf 6 at Tryz 89 as Tryz.osort
#print axioms Tryz.osort
end Go.Proofs
namespace Go.Proofs.YtakcjkbnfegidaaGreat
open Go Go.RowKit Tryz
section
open Go.Sort
set_option maxRecDepth 100000 in
set_option maxHeartbeats 2000000 in
theorem Vj(x0 x1 x2 x3 x4 x5 y0 y1 y2 y3 y4 y5 r:Int)(hk:∀W:World,Calls prog 160 #[.agg #[.int .i64 x0,.int .i64 x1,.int .i64 x2,.int .i64 x3,.int .i64 x4],.agg #[.int .i64 y0,.int .i64 y1,.int .i64 y2,.int .i64 y3,.int .i64 y4]] W λe w'=>e=.returned (.int .i64 r)/\∃q os',w'=grow (W.drewN q) os')(W:World):Calls prog 319 #[.agg #[.int .i64 x0,.int .i64 x1,.int .i64 x2,.int .i64 x3,.int .i64 x4,.int .i64 x5],.agg #[.int .i64 y0,.int .i64 y1,.int .i64 y2,.int .i64 y3,.int .i64 y4,.int .i64 y5]] W λe w'=>e=.returned (.int .i64 r)/\∃q os',w'=grow (W.drewN q) os':=by
 go_enter func319,Tryz.ntmps319
 go_wp2_with (go_at_call 160;refine(hk _).mono ?_;rintro e w' ⟨rfl,q,os,rfl⟩)
 go_ret
 refine⟨rfl,q,#[Obj.cells #[Value.int IntKind.i64 x0,Value.int IntKind.i64 x1,Value.int IntKind.i64 x2,Value.int IntKind.i64 x3,Value.int IntKind.i64 x4,Value.int IntKind.i64 x5] 390,Obj.cells #[Value.int IntKind.i64 y0,Value.int IntKind.i64 y1,Value.int IntKind.i64 y2,Value.int IntKind.i64 y3,Value.int IntKind.i64 y4,Value.int IntKind.i64 y5] 390]++os,?_⟩
 rw[alloc_eq_grow,alloc_eq_grow]
 refine(grow_grow (grow (W.drewN q) #[_]) #[_] os).trans ((grow_grow (W.drewN q) #[_] _).trans ?_)
 rw[<-Array.append_assoc]
 rfl
theorem zY(x0 x1 x2 x3 x4:Int)(W:World):Calls prog 81 #[.agg #[.int .i64 x0,.int .i64 x1,.int .i64 x2,.int .i64 x3,.int .i64 x4]] W λe w'=>e=.returned (.int .i64 x2)/\∃q os',w'=grow (W.drewN q) os':=by
 go_enter func81,Tryz.ntmps81
 exact WZ
theorem zZ(x0 x1 x2 x3 x4:Int)(W:World):Calls prog 82 #[.agg #[.int .i64 x0,.int .i64 x1,.int .i64 x2,.int .i64 x3,.int .i64 x4]] W λe w'=>e=.returned (.int .i64 x4)/\∃q os',w'=grow (W.drewN q) os':=by
 go_enter func82,Tryz.ntmps82
 exact WZ
theorem wq(x0 x1 x2 x3 x4:Int)(W:World):Calls prog 83 #[.agg #[.int .i64 x0,.int .i64 x1,.int .i64 x2,.int .i64 x3,.int .i64 x4]] W λe w'=>e=.returned (.int .i64 x0)/\∃q os',w'=grow (W.drewN q) os':=by
 go_enter func83,Tryz.ntmps83
 exact WZ
theorem Ae(x0 x1 x2 x3 x4:Int)(W:World):Calls prog 84 #[.agg #[.int .i64 x0,.int .i64 x1,.int .i64 x2,.int .i64 x3,.int .i64 x4]] W λe w'=>e=.returned (.int .i64 x1)/\∃q os',w'=grow (W.drewN q) os':=by
 go_enter func84,Tryz.ntmps84
 exact WZ
structure XE (W V:World) (x y:aW) (b gk:Nat) (ks:aW):Prop where
 fx:∀(j:Nat) v,x[j]? =some v->V.cell? ⟨W.heap.size,j,none⟩=some v
 fy:∀(j:Nat) v,y[j]? =some v->V.cell? ⟨W.heap.size+1,j,none⟩=some v
 fb:V.cell? ⟨b,0,none⟩=some (.slice (some ⟨gk,0,none⟩) ks.length ks.length)
 fk:∀(j:Nat) v,ks[j]? =some v->V.cell? ⟨gk,j,none⟩=some v
 lb:b<V.heap.size
 lg:gk<V.heap.size
 lx:W.heap.size+1<V.heap.size
 rel:∀n os,∃q os',grow (V.drewN n) os=grow (W.drewN q) os'
theorem XE.ar{W V:World}{x y ks:aW}{b J:Nat}(h:XE W V x y b J ks)(n:Nat)(os:Array Obj):XE W (grow (V.drewN n) os) x y b J ks where
 fx j v u:=avY (by show W.heap.size<_;have:=h.lx;omega) (h.fx j v u) n os
 fy j v u:=avY (by show W.heap.size+1<_;exact h.lx) (h.fy j v u) n os
 fb:=avY (by show b<_;exact h.lb) h.fb n os
 fk j v u:=avY (by show J<_;exact h.lg) (h.fk j v u) n os
 lb:=by rw[size_grow];exact auH h.lb (awu _ _)
 lg:=by rw[size_grow];exact auH h.lg (awu _ _)
 lx:=by rw[size_grow];exact auH h.lx (awu _ _)
 rel m z:=by
  obtain⟨q,A,e⟩:=h.rel (n+m) (os++z)
  refine⟨q,A,?_⟩
  rw[<-e,<-grow_grow,<-World.drewN_drewN];rfl
theorem XE.bH{W:World}{x y ks:aW}{b gk:Nat}{t:TypeId}(fb:W.cell? ⟨b,0,none⟩=some (aB (some ⟨gk,0,none⟩) ks.length ks.length))(fk:∀(j:Nat) v,ks[j]? =some v->W.cell? ⟨gk,j,none⟩=some v)(lb:b<W.heap.size)(lg:gk<W.heap.size):XE W ((W.alloc (.cells x.toArray t)).alloc (.cells y.toArray t)) x y b gk ks:=by
 have h1:(W.alloc (.cells x.toArray t)).heap.size=W.heap.size+1:=at5 ..;have h2:((W.alloc (.cells x.toArray t)).alloc (.cells y.toArray t)).heap.size=W.heap.size+2:=TU
 have e:(W.alloc (.cells x.toArray t)).alloc (.cells y.toArray t)=grow (W.drewN 0) #[.cells x.toArray t,.cells y.toArray t]:=by rw[alloc_eq_grow,alloc_eq_grow,grow_grow];rfl
 have B0:aP ((W.alloc (.cells x.toArray t)).alloc (.cells y.toArray t)) W.heap.size t x:=(aP.new W t x).ae (aj.alloc _ _ _);have B1:aP ((W.alloc (.cells x.toArray t)).alloc (.cells y.toArray t)) (W.heap.size+1) t y:=by have:=aP.new (W.alloc (.cells x.toArray t)) t y;rwa [h1] at this
 refine⟨λj v hv=>B0.ai hv,λj v hv=>B1.ai hv,?_,λj v hv=>?_,Y,Y,Y,λn os=>?_⟩
 .rw[e];exact avY (by exact lb) fb 0 _
 .rw[e];exact avY (by exact lg) (fk j v hv) 0 _
 .rw[e];exact⟨n,#[.cells x.toArray t,.cells y.toArray t]++os,by rw[<-grow_grow];rfl⟩
set_option maxRecDepth 100000 in
set_option maxHeartbeats 8000000 in
theorem abH(x0 x1 x2 x3 x4 y0 y1 y2 y3 y4:Int)(c0 c1 c2 c3 r:Int)(k0:∀W,Calls prog 93 #[.int .i64 x2,.int .i64 y2] W λe w'=>e=.returned (.int .i64 c0)/\∃q os',w'=grow (W.drewN q) os')(k1:∀W,Calls prog 93 #[.int .i64 x4,.int .i64 y4] W λe w'=>e=.returned (.int .i64 c1)/\∃q os',w'=grow (W.drewN q) os')(k2:∀W,Calls prog 93 #[.int .i64 x0,.int .i64 y0] W λe w'=>e=.returned (.int .i64 c2)/\∃q os',w'=grow (W.drewN q) os')(k3:∀W,Calls prog 93 #[.int .i64 x1,.int .i64 y1] W λe w'=>e=.returned (.int .i64 c3)/\∃q os',w'=grow (W.drewN q) os')(hr0:c0≠0->r=c0)(hr1:c0=0->c1≠0->r=c1)(hr2:c0=0->c1=0->c2≠0->r=c2)(hr3:c0=0->c1=0->c2=0->c3≠0->r=c3)(hz:c0=0->c1=0->c2=0->c3=0->r=0)(b gk:Nat)(W:World)(hb:W.cell? ⟨b,0,none⟩=some (.slice (some ⟨gk,0,none⟩) 4 4))(hk:∀(j:Nat) v,[Value.func (.func 81) #[] #[],Value.func (.func 82) #[] #[],Value.func (.func 83) #[] #[],Value.func (.func 84) #[] #[]][j]? =some v->W.cell? ⟨gk,j,none⟩=some v)(lb:b<W.heap.size)(lg:gk<W.heap.size):Calls prog 174 #[.agg #[.int .i64 x0,.int .i64 x1,.int .i64 x2,.int .i64 x3,.int .i64 x4],.agg #[.int .i64 y0,.int .i64 y1,.int .i64 y2,.int .i64 y3,.int .i64 y4],.pointer (some ⟨b,0,none⟩)] W λe w'=>e=.returned (.int .i64 r)/\∃q os',w'=grow (W.drewN q) os':=by
 have hm:Tryz.prog.follows .mixedOrders=true:=Z
 have K0:=XE.bH (x:=[Value.int .i64 x0,Value.int .i64 x1,Value.int .i64 x2,Value.int .i64 x3,Value.int .i64 x4]) (y:=[Value.int .i64 y0,Value.int .i64 y1,Value.int .i64 y2,Value.int .i64 y3,Value.int .i64 y4]) (t:=65) (ks:=[Value.func (.func 81) #[] #[],Value.func (.func 82) #[] #[],Value.func (.func 83) #[] #[],Value.func (.func 84) #[] #[]]) hb hk lb lg
 go_enter func174,Tryz.ntmps174
 go_wp2
 obtain⟨V0,hV⟩:∃V,V=(W.alloc (.cells [Value.int .i64 x0,Value.int .i64 x1,Value.int .i64 x2,Value.int .i64 x3,Value.int .i64 x4].toArray 65)).alloc (.cells [Value.int .i64 y0,Value.int .i64 y1,Value.int .i64 y2,Value.int .i64 y3,Value.int .i64 y4].toArray 65):=⟨_,rfl⟩
 rw[<-hV] at K0
 have hV':=hV.symm
 rw[hV']
 clear hV hV' hb hk
 apply wp_loop_rounds 5
 rw[auj]
 have fk:=K0.fk 0 _ rfl
 go_wp2
 refine s_7 ?_;intro fx0 fy0 fx1 fy1 fx2 fy2
 refine aoV ?_;intro fx3 fy3 fx4 fy4
 have kx:=λW=>zY x0 x1 x2 x3 x4 W
 have ky:=λW=>zY y0 y1 y2 y3 y4 W
 go_quiet_grown (first|(go_at_call_of 81 x0;exact as4 (kx _))|(go_at_call_of 81 y0;exact as4 (ky _))|(go_at_call 93;exact as4 (k0 _)))
 clear fk kx ky fx0 fy0 fx1 fy1 fx2 fy2 fx3 fy3 fx4 fy4
 have K1:=K0.ar nq osq
 have rl:=K1.rel 0 #[]
 clear K0
 generalize grow (V0.drewN nq) osq=V1 at K1 rl|-
 clear nq osq V0
 clear k0
 go_wp2
 .exact ads
 have z0:c0=0:=Yg
 clear rl
 rw[auj]
 have fk:=K1.fk 1 _ rfl
 go_wp2
 refine s_8 ?_;intro fx0 fy0 fx1 fy1 fx2 fy2
 refine aoW ?_;intro fx3 fy3 fx4 fy4
 have kx:=λW=>zZ x0 x1 x2 x3 x4 W
 have ky:=λW=>zZ y0 y1 y2 y3 y4 W
 go_quiet_grown (first|(go_at_call_of 82 x0;exact as4 (kx _))|(go_at_call_of 82 y0;exact as4 (ky _))|(go_at_call 93;exact as4 (k1 _)))
 clear fk kx ky fx0 fy0 fx1 fy1 fx2 fy2 fx3 fy3 fx4 fy4
 have K2:=K1.ar nq osq
 have rl:=K2.rel 0 #[]
 clear K1
 generalize grow (V1.drewN nq) osq=V2 at K2 rl|-
 clear nq osq V1
 clear k1
 go_wp2
 .exact adr
 have z1:c1=0:=Yg
 clear rl
 rw[auj]
 have fk:=K2.fk 2 _ rfl
 go_wp2
 refine s_9 ?_;intro fx0 fy0 fx1 fy1 fx2 fy2
 refine aoX ?_;intro fx3 fy3 fx4 fy4
 have kx:=λW=>wq x0 x1 x2 x3 x4 W
 have ky:=λW=>wq y0 y1 y2 y3 y4 W
 go_quiet_grown (first|(go_at_call_of 83 x0;exact as4 (kx _))|(go_at_call_of 83 y0;exact as4 (ky _))|(go_at_call 93;exact as4 (k2 _)))
 clear fk kx ky fx0 fy0 fx1 fy1 fx2 fy2 fx3 fy3 fx4 fy4
 have K3:=K2.ar nq osq
 have rl:=K3.rel 0 #[]
 clear K2
 generalize grow (V2.drewN nq) osq=V3 at K3 rl|-
 clear nq osq V2
 clear k2
 go_wp2
 .exact adq
 have z2:c2=0:=Yg
 clear rl
 rw[auj]
 have fk:=K3.fk 3 _ rfl
 go_wp2
 refine aoQ ?_;intro fx0 fy0 fx1 fy1 fx2 fy2 fx3 fy3 fx4 fy4
 have kx:=λW=>Ae x0 x1 x2 x3 x4 W
 have ky:=λW=>Ae y0 y1 y2 y3 y4 W
 go_quiet_grown (first|(go_at_call_of 84 x0;exact as4 (kx _))|(go_at_call_of 84 y0;exact as4 (ky _))|(go_at_call 93;exact as4 (k3 _)))
 exact an7
set_option maxRecDepth 100000 in
set_option maxHeartbeats 8000000 in
theorem abI(x0 x1 x2 x3 x4 y0 y1 y2 y3 y4:Int)(c0 c1 c2 c3 r:Int)(k0:∀W,Calls prog 93 #[.int .i64 x4,.int .i64 y4] W λe w'=>e=.returned (.int .i64 c0)/\∃q os',w'=grow (W.drewN q) os')(k1:∀W,Calls prog 93 #[.int .i64 x0,.int .i64 y0] W λe w'=>e=.returned (.int .i64 c1)/\∃q os',w'=grow (W.drewN q) os')(k2:∀W,Calls prog 93 #[.int .i64 x1,.int .i64 y1] W λe w'=>e=.returned (.int .i64 c2)/\∃q os',w'=grow (W.drewN q) os')(k3:∀W,Calls prog 93 #[.int .i64 x2,.int .i64 y2] W λe w'=>e=.returned (.int .i64 c3)/\∃q os',w'=grow (W.drewN q) os')(hr0:c0≠0->r=c0)(hr1:c0=0->c1≠0->r=c1)(hr2:c0=0->c1=0->c2≠0->r=c2)(hr3:c0=0->c1=0->c2=0->c3≠0->r=c3)(hz:c0=0->c1=0->c2=0->c3=0->r=0)(b gk:Nat)(W:World)(hb:W.cell? ⟨b,0,none⟩=some (.slice (some ⟨gk,0,none⟩) 4 4))(hk:∀(j:Nat) v,[Value.func (.func 82) #[] #[],Value.func (.func 83) #[] #[],Value.func (.func 84) #[] #[],Value.func (.func 81) #[] #[]][j]? =some v->W.cell? ⟨gk,j,none⟩=some v)(lb:b<W.heap.size)(lg:gk<W.heap.size):Calls prog 174 #[.agg #[.int .i64 x0,.int .i64 x1,.int .i64 x2,.int .i64 x3,.int .i64 x4],.agg #[.int .i64 y0,.int .i64 y1,.int .i64 y2,.int .i64 y3,.int .i64 y4],.pointer (some ⟨b,0,none⟩)] W λe w'=>e=.returned (.int .i64 r)/\∃q os',w'=grow (W.drewN q) os':=by
 have hm:Tryz.prog.follows .mixedOrders=true:=Z
 have K0:=XE.bH (x:=[Value.int .i64 x0,Value.int .i64 x1,Value.int .i64 x2,Value.int .i64 x3,Value.int .i64 x4]) (y:=[Value.int .i64 y0,Value.int .i64 y1,Value.int .i64 y2,Value.int .i64 y3,Value.int .i64 y4]) (t:=65) (ks:=[Value.func (.func 82) #[] #[],Value.func (.func 83) #[] #[],Value.func (.func 84) #[] #[],Value.func (.func 81) #[] #[]]) hb hk lb lg
 go_enter func174,Tryz.ntmps174
 go_wp2
 obtain⟨V0,hV⟩:∃V,V=(W.alloc (.cells [Value.int .i64 x0,Value.int .i64 x1,Value.int .i64 x2,Value.int .i64 x3,Value.int .i64 x4].toArray 65)).alloc (.cells [Value.int .i64 y0,Value.int .i64 y1,Value.int .i64 y2,Value.int .i64 y3,Value.int .i64 y4].toArray 65):=⟨_,rfl⟩
 rw[<-hV] at K0
 have hV':=hV.symm
 rw[hV']
 clear hV hV' hb hk
 apply wp_loop_rounds 5
 rw[auj]
 have fk:=K0.fk 0 _ rfl
 go_wp2
 refine s_7 ?_;intro fx0 fy0 fx1 fy1 fx2 fy2
 refine aoV ?_;intro fx3 fy3 fx4 fy4
 have kx:=λW=>zZ x0 x1 x2 x3 x4 W
 have ky:=λW=>zZ y0 y1 y2 y3 y4 W
 go_quiet_grown (first|(go_at_call_of 82 x0;exact as4 (kx _))|(go_at_call_of 82 y0;exact as4 (ky _))|(go_at_call 93;exact as4 (k0 _)))
 clear fk kx ky fx0 fy0 fx1 fy1 fx2 fy2 fx3 fy3 fx4 fy4
 have K1:=K0.ar nq osq
 have rl:=K1.rel 0 #[]
 clear K0
 generalize grow (V0.drewN nq) osq=V1 at K1 rl|-
 clear nq osq V0
 clear k0
 go_wp2
 .exact ads
 have z0:c0=0:=Yg
 clear rl
 rw[auj]
 have fk:=K1.fk 1 _ rfl
 go_wp2
 refine s_8 ?_;intro fx0 fy0 fx1 fy1 fx2 fy2
 refine aoW ?_;intro fx3 fy3 fx4 fy4
 have kx:=λW=>wq x0 x1 x2 x3 x4 W
 have ky:=λW=>wq y0 y1 y2 y3 y4 W
 go_quiet_grown (first|(go_at_call_of 83 x0;exact as4 (kx _))|(go_at_call_of 83 y0;exact as4 (ky _))|(go_at_call 93;exact as4 (k1 _)))
 clear fk kx ky fx0 fy0 fx1 fy1 fx2 fy2 fx3 fy3 fx4 fy4
 have K2:=K1.ar nq osq
 have rl:=K2.rel 0 #[]
 clear K1
 generalize grow (V1.drewN nq) osq=V2 at K2 rl|-
 clear nq osq V1
 clear k1
 go_wp2
 .exact adr
 have z1:c1=0:=Yg
 clear rl
 rw[auj]
 have fk:=K2.fk 2 _ rfl
 go_wp2
 refine s_9 ?_;intro fx0 fy0 fx1 fy1 fx2 fy2
 refine aoX ?_;intro fx3 fy3 fx4 fy4
 have kx:=λW=>Ae x0 x1 x2 x3 x4 W
 have ky:=λW=>Ae y0 y1 y2 y3 y4 W
 go_quiet_grown (first|(go_at_call_of 84 x0;exact as4 (kx _))|(go_at_call_of 84 y0;exact as4 (ky _))|(go_at_call 93;exact as4 (k2 _)))
 clear fk kx ky fx0 fy0 fx1 fy1 fx2 fy2 fx3 fy3 fx4 fy4
 have K3:=K2.ar nq osq
 have rl:=K3.rel 0 #[]
 clear K2
 generalize grow (V2.drewN nq) osq=V3 at K3 rl|-
 clear nq osq V2
 clear k2
 go_wp2
 .exact adq
 have z2:c2=0:=Yg
 clear rl
 rw[auj]
 have fk:=K3.fk 3 _ rfl
 go_wp2
 refine aoQ ?_;intro fx0 fy0 fx1 fy1 fx2 fy2 fx3 fy3 fx4 fy4
 have kx:=λW=>zY x0 x1 x2 x3 x4 W
 have ky:=λW=>zY y0 y1 y2 y3 y4 W
 go_quiet_grown (first|(go_at_call_of 81 x0;exact as4 (kx _))|(go_at_call_of 81 y0;exact as4 (ky _))|(go_at_call 93;exact as4 (k3 _)))
 exact an7
abbrev DP(b:Bool):Int:=bif b then 1 else 0
theorem Rm(x0 x1 x2:Int)(x3:Bool)(W:World):Calls prog 180 #[.agg #[.int .i64 x0,.int .i64 x1,.int .i64 x2,.bool x3]] W λe w'=>e=.returned (.int .i64 x0)/\∃q os',w'=grow (W.drewN q) os':=by
 go_enter func180,Tryz.ntmps180
 exact aoM
theorem Rn(x0 x1 x2:Int)(x3:Bool)(W:World):Calls prog 182 #[.agg #[.int .i64 x0,.int .i64 x1,.int .i64 x2,.bool x3]] W λe w'=>e=.returned (.int .i64 x1)/\∃q os',w'=grow (W.drewN q) os':=by
 go_enter func182,Tryz.ntmps182
 exact aoM
theorem Ro(x0 x1 x2:Int)(x3:Bool)(W:World):Calls prog 181 #[.agg #[.int .i64 x0,.int .i64 x1,.int .i64 x2,.bool x3]] W λe w'=>e=.returned (.int .i64 (DP x3))/\∃q os',w'=grow (W.drewN q) os':=by
 cases x3 with
 |true=>
  go_enter func181,Tryz.ntmps181
  go_wp2
  go_ret
  refine⟨rfl,0,#[Obj.cells #[Value.int .i64 x0,Value.int .i64 x1,Value.int .i64 x2,Value.bool true] 114],?_⟩
  rw[alloc_eq_grow];rfl
 |false=>
  go_enter func181,Tryz.ntmps181
  go_wp2
  go_ret
  refine⟨rfl,0,#[Obj.cells #[Value.int .i64 x0,Value.int .i64 x1,Value.int .i64 x2,Value.bool false] 114],?_⟩
  rw[alloc_eq_grow];rfl
set_option maxRecDepth 100000 in
set_option maxHeartbeats 8000000 in
theorem Rp(x0 x1 x2 y0 y1 y2:Int)(x3 y3:Bool)(c0 c1 c2 r:Int)(k0:∀W,Calls prog 93 #[.int .i64 x0,.int .i64 y0] W λe w'=>e=.returned (.int .i64 c0)/\∃q os',w'=grow (W.drewN q) os')(k1:∀W,Calls prog 93 #[.int .i64 (DP x3),.int .i64 (DP y3)] W λe w'=>e=.returned (.int .i64 c1)/\∃q os',w'=grow (W.drewN q) os')(k2:∀W,Calls prog 93 #[.int .i64 x1,.int .i64 y1] W λe w'=>e=.returned (.int .i64 c2)/\∃q os',w'=grow (W.drewN q) os')(hr0:c0≠0->r=c0)(hr1:c0=0->c1≠0->r=c1)(hr2:c0=0->c1=0->c2≠0->r=c2)(hz:c0=0->c1=0->c2=0->r=0)(b gk:Nat)(W:World)(hb:W.cell? ⟨b,0,none⟩=some (.slice (some ⟨gk,0,none⟩) 3 3))(hk:∀(j:Nat) v,[Value.func (.func 180) #[] #[],Value.func (.func 181) #[] #[],Value.func (.func 182) #[] #[]][j]? =some v->W.cell? ⟨gk,j,none⟩=some v)(lb:b<W.heap.size)(lg:gk<W.heap.size):Calls prog 265 #[.agg #[.int .i64 x0,.int .i64 x1,.int .i64 x2,.bool x3],.agg #[.int .i64 y0,.int .i64 y1,.int .i64 y2,.bool y3],.pointer (some ⟨b,0,none⟩)] W λe w'=>e=.returned (.int .i64 r)/\∃q os',w'=grow (W.drewN q) os':=by
 have hm:Tryz.prog.follows .mixedOrders=true:=Z
 have K0:=XE.bH (x:=[Value.int .i64 x0,Value.int .i64 x1,Value.int .i64 x2,Value.bool x3]) (y:=[Value.int .i64 y0,Value.int .i64 y1,Value.int .i64 y2,Value.bool y3]) (t:=114) (ks:=[Value.func (.func 180) #[] #[],Value.func (.func 181) #[] #[],Value.func (.func 182) #[] #[]]) hb hk lb lg
 go_enter func265,Tryz.ntmps265
 go_wp2
 obtain⟨V0,hV⟩:∃V,V=(W.alloc (.cells [Value.int .i64 x0,Value.int .i64 x1,Value.int .i64 x2,Value.bool x3].toArray 114)).alloc (.cells [Value.int .i64 y0,Value.int .i64 y1,Value.int .i64 y2,Value.bool y3].toArray 114):=⟨_,rfl⟩
 rw[<-hV] at K0
 have hV':=hV.symm
 rw[hV']
 clear hV hV' hb hk
 apply wp_loop_rounds 4
 rw[auj]
 have fk:=K0.fk 0 _ rfl
 go_wp2
 refine s_7 ?_;intro fx0 fy0 fx1 fy1 fx2 fy2
 have fx3:∀n os,(grow (V0.drewN n) os).cell? ⟨W.heap.size,3,none⟩=some (.bool x3):=λn os=>(K0.ar n os).fx 3 _ rfl
 have fy3:∀n os,(grow (V0.drewN n) os).cell? ⟨W.heap.size+1,3,none⟩=some (.bool y3):=λn os=>(K0.ar n os).fy 3 _ rfl
 have kx:=λW=>Rm x0 x1 x2 x3 W
 have ky:=λW=>Rm y0 y1 y2 y3 W
 go_quiet_grown (first|(go_at_call_of 180 x0;exact as4 (kx _))|(go_at_call_of 180 y0;exact as4 (ky _))|(go_at_call 93;exact as4 (k0 _)))
 clear fk kx ky fx0 fy0 fx1 fy1 fx2 fy2 fx3 fy3
 have K1:=K0.ar nq osq
 have rl:=K1.rel 0 #[]
 clear K0
 generalize grow (V0.drewN nq) osq=V1 at K1 rl|-
 clear nq osq V0
 clear k0
 go_wp2
 .exact ads
 have z0:c0=0:=Yg
 clear rl
 rw[auj]
 have fk:=K1.fk 1 _ rfl
 go_wp2
 refine s_8 ?_;intro fx0 fy0 fx1 fy1 fx2 fy2
 have fx3:∀n os,(grow (V1.drewN n) os).cell? ⟨W.heap.size,3,none⟩=some (.bool x3):=λn os=>(K1.ar n os).fx 3 _ rfl
 have fy3:∀n os,(grow (V1.drewN n) os).cell? ⟨W.heap.size+1,3,none⟩=some (.bool y3):=λn os=>(K1.ar n os).fy 3 _ rfl
 have kx:=λW=>Ro x0 x1 x2 x3 W
 have ky:=λW=>Ro y0 y1 y2 y3 W
 go_quiet_grown (first|(go_at_call_of 181 x0;exact as4 (kx _))|(go_at_call_of 181 y0;exact as4 (ky _))|(go_at_call 93;exact as4 (k1 _)))
 clear fk kx ky fx0 fy0 fx1 fy1 fx2 fy2 fx3 fy3
 have K2:=K1.ar nq osq
 have rl:=K2.rel 0 #[]
 clear K1
 generalize grow (V1.drewN nq) osq=V2 at K2 rl|-
 clear nq osq V1
 clear k1
 go_wp2
 .exact adr
 have z1:c1=0:=Yg
 clear rl
 rw[auj]
 have fk:=K2.fk 2 _ rfl
 go_wp2
 refine s_9 ?_;intro fx0 fy0 fx1 fy1 fx2 fy2
 have fx3:∀n os,(grow (V2.drewN n) os).cell? ⟨W.heap.size,3,none⟩=some (.bool x3):=λn os=>(K2.ar n os).fx 3 _ rfl
 have fy3:∀n os,(grow (V2.drewN n) os).cell? ⟨W.heap.size+1,3,none⟩=some (.bool y3):=λn os=>(K2.ar n os).fy 3 _ rfl
 have kx:=λW=>Rn x0 x1 x2 x3 W
 have ky:=λW=>Rn y0 y1 y2 y3 W
 go_quiet_grown (first|(go_at_call_of 182 x0;exact as4 (kx _))|(go_at_call_of 182 y0;exact as4 (ky _))|(go_at_call 93;exact as4 (k2 _)))
 clear fk kx ky fx0 fy0 fx1 fy1 fx2 fy2 fx3 fy3
 have K3:=K2.ar nq osq
 have rl:=K3.rel 0 #[]
 clear K2
 generalize grow (V2.drewN nq) osq=V3 at K3 rl|-
 clear nq osq V2
 clear k2
 go_wp2
 .exact adq
 have z2:c2=0:=Yg
 clear rl
 have rl:=K3.rel 0 #[]
 rw[auj]
 go_wp2
 go_ret
 have e:=hz z0 z1 z2
 exact Y9
end
section
variable {d:aU} {T:Nat->Int->Int}
theorem Cd:∀(a b:List Od) (i:Nat) (h:Int),jN (a++b) i h=jN a i h+jN b i h
 |[],b,i,h=>by show jN b i h=0+_;omega
 |x::a,b,i,h=>by
  show(if _ then _ else _)+jN (a++b) i h=(if _ then _ else _)+jN a i h+jN b i h
  rw[Cd a b i h];omega
def DQ(T:Nat->Int->Int)(h:Nat)(k:Nat):List Od:=(List.range k).filterMap λi=>if T i h=0 then none else some (⟨(h:Int),(i:Int),T i h,true⟩:Od)
theorem EM{h k:Nat}:DQ T h (k+1)=DQ T h k++(if T k h=0 then [] else [⟨(h:Int),(k:Int),T k h,true⟩]):=by
 unfold DQ;rw[atn,auP];congr 1;split<;>simp[*]
theorem Vk{h k:Nat}{i:Nat}{h':Int}:jN (if T k h=0 then [] else [(⟨(h:Int),(k:Int),T k h,true⟩:Od)]) i h'=if(h:Int)=h'/\i=k then T i h' else 0:=by
 by_cases z:T k h=0
 .rw[asp z];by_cases e:(h:Int)=h'/\i=k
  .rw[asp e,<-e.1,e.2,z];rfl
  .rw[aso e];rfl
 .rw[aso z];show(if(k:Int)=i/\(h:Int)=h' then T k h else 0)+(0:Int)=_;by_cases e:(h:Int)=h'/\i=k
  .rw[asp e,asp ⟨Y,e.1⟩,<-e.1,e.2];omega
  .rw[aso e,aso Y];rfl
theorem Is{h:Nat}{i:Nat}{h':Int}:∀k,jN (DQ T h k) i h'=if(h:Int)=h'/\i<k then T i h' else 0
 |0=>by rw[aso Y];rfl
 |k+1=>by
  rw[EM,Cd,Is k,Vk]
  by_cases e:(h:Int)=h'
  .by_cases q:i<k
   .rw[asp ⟨e,q⟩,aso Y,asp ⟨e,Y⟩];omega
   .by_cases u:i=k
    .rw[aso Y,asp ⟨e,u⟩,asp ⟨e,Y⟩];omega
    .rw[aso Y,aso Y,aso Y];rfl
  .rw[aso λq=>e q.1,aso λq=>e q.1,aso λq=>e q.1];rfl
theorem EN{F:Nat}{i:Nat}{h':Int}:∀n:Nat,jN ((List.range n).flatMap λh=>DQ T h F) i h'=if(0<=h'/\h'<n)/\i<F then T i h' else 0
 |0=>by rw[aso Y];rfl
 |n+1=>by
  rw[atn,as7,Cd,EN n,ata,au2,asT,Is]
  by_cases q:i<F
  .by_cases e:(n:Int)=h'
   .rw[aso Y,asp ⟨e,q⟩,asp Y];omega
   .by_cases p:0<=h'/\h'<n
    .rw[asp ⟨p,q⟩,aso Y,asp Y];omega
    .rw[aso Y,aso Y,aso Y];rfl
  .rw[aso Y,aso Y,aso Y];rfl
theorem On(z:0<=d.aG)(u:∀i h,T i h≠0->i<d.aR.length/\0<=h/\h<d.aG)(i:Nat)(h:Int):jN (Io d T) i h=T i h:=by
 have:=EN (T:=T) (F:=d.aR.length) (i:=i) (h':=h) d.aG.toNat;show jN ((List.range d.aG.toNat).flatMap λh=>DQ T h d.aR.length) i h=_;rw[this];split
 .rfl
 .exact Yg
theorem Vl(M:0<=d.aG)(z:∀i h,0<=T i h):yX d (Io d T):=λx u=>by
 obtain⟨h,i,h1,J,A,rfl⟩:=kD.1 u;have:=z i h;exact⟨⟨by show(0:Int)<=i;omega,by show(i:Int)<_;omega⟩,⟨by show(0:Int)<=h;omega,by show(h:Int)<_;omega⟩,by show 1<=T i h;omega⟩
theorem EO:∀(a b:List Cm) (i:Nat) (h:Int),cj (a++b) i h=cj a i h+cj b i h
 |[],b,i,h=>by show cj b i h=0+_;omega
 |x::a,b,i,h=>by
  show(if _ then _ else _)+cj (a++b) i h=(if _ then _ else _)+cj a i h+cj b i h
  rw[EO a b i h];omega
theorem Ce{a b:List Cm}(p:a.Perm b)(i:Nat)(h:Int):cj a i h=cj b i h:=by
 induction p with
 |nil=>rfl
 |cons x p u=>show _+_=_+_;rw[u]
 |swap x y l=>show _+(_+_)=_+(_+_);omega
 |trans p q A z=>exact A.trans z
def uT(d:aU)(l:List Cm):Prop:=∀c∈l,(0<=c.aO/\c.aO<d.aR.length)/\(0<=c.aH/\c.aH<d.aG)/\1<=c.aC
theorem jT:∀{l:List Cm},uT d l->∀i h,0<=cj l i h
 |[],_,_,_=>asO _
 |x::l,u,i,h=>by
  have:=jT (l:=l) (λy z=>u y (ast _ z)) i h
  have:=(u x ass).2.2
  unfold cj
  split<;>omega
theorem yb:∀{l:List Cm},uT d l->∀i h,cj l i h≠0->i<d.aR.length/\0<=h/\h<d.aG
 |[],_,_,_,h=>absurd rfl h
 |x::l,z,i,h,u=>by
  unfold cj at u
  by_cases e:x.aO=i/\x.aH=h
  .have:=z x ass;omega
  .rw[aso e] at u
   exact yb (l:=l) (λy A=>z y (ast _ A)) i h Y
theorem th(z:0<=d.aG){l:List Cm}(u:uT d l):jN (eE d l)=cj l:=by
 funext i h;exact On z (yb u) i h
theorem tj(z:0<=d.aG){l:List Cm}(u:uT d l):yX d (eE d l):=Vl z (jT u)
theorem Cg{h k:Nat}{o:Od}(u:o∈DQ T h k):o.aH=h/\o.bP=true/\0<=o.index/\o.index<k:=by
 unfold DQ at u;rw[aus] at u;obtain⟨i,hi,e⟩:=u;rw[as0] at hi;split at e
 .cases e
 .exact Yg
theorem It{h:Nat}:∀k,mH qu (DQ T h k)
 |0=>auS
 |k+1=>by
  rw[EM]
  refine atH.2 ⟨It k,?_,λa z b u=>?_⟩
  .split
   .exact auS
   .exact atY _ _
  .obtain⟨A,a2,a3,a4⟩:=Cg z
   split at u
   .cases u
   .rw[asP] at u
    subst u
    unfold qu
    rw[asy]
    simp only
    rw[A,a2]
    simp
    omega
theorem Iv:mH qu (Io d T):=by
 have:∀n:Nat,mH qu ((List.range n).flatMap λh=>DQ T h d.aR.length):=λn=>by
  induction n with
  |zero=>exact auS
  |succ n z=>
   rw[atn,as7,ata,au2,asT];refine atH.2 ⟨z,It _,λa u b A=>?_⟩;rw[auF] at u;obtain⟨h,h1,J⟩:=u;rw[as0] at h1;have O:=(Cg J).1;have M:=(Cg A).1;unfold qu;rw[asy,O,M];omega
 exact this _
end
abbrev Rg.cc(x:Rg):aW:=[iv x.lo,iv x.hi]
def GD:Ty Rg:=JS 2 Rg.cc λ_=>rfl
structure eV where
 body:Int
 bounds:List Rg
 seen:aX
def kF:Ty eV:=ZL (pg cO (pg (Xg GD) (Xg cO))) λx=>(x.body,x.bounds,x.seen)
theorem kH{D:Nat->Prop}{w:World}{cs:aW}{x:eV}(h:kF.uF D w cs x):∃A n c B m e,cs=[iv x.body,aB A n c,aB B m e]/\bS GD D w A n x.bounds/\bS cO D w B m x.seen/\n<=c/\m<=e/\jt x.body:=by
 obtain⟨c1,c2,h1,⟨O,Y⟩,c3,Z,M,⟨A,n,c,J,X,W⟩,B,m,e,z,V,u⟩:=h;simp only at O J z h1 M;subst O;subst J;subst z;subst M;subst h1;exact⟨A,n,c,B,m,e,U,X,V,W,u,Y⟩
abbrev PD(y:Rg):Bool:=Kn y 1099511627776
abbrev Ch(n:Int):Bool:=dS n 0 1099511627776
def qw(l:List Rg):Bool:=dS l.length 1 16&&l.all PD
def kY(x:eV):Bool:=dS x.body 0 63&&(qw x.bounds&&(decide (x.seen.length=x.bounds.length)&&x.seen.all Ch))
def jn(x:eV):Bool:=decide (max (x.bounds.length:Int) x.seen.length<=16)
def mJ(l:List eV):Int:=if 256<l.length then 2 else if l.all jn=false then 2 else if l.all kY then 0 else 370
section
variable {D:Nat->Prop} {w:World} {A:Option Addr} {n c:Nat}
theorem Rr{n lo hi:Int}:aK prog 153 #[iv n,iv lo,iv hi] w (λv w'=>v=.bool (dS n lo hi)/\w'=w):=by
 refine aF func153 Z<|HF (λg1=>?_) λg1=>?_
 .exact uB
 exact g_8
theorem Oo{y:Rg}:aA 230 #[.agg y.cc.toArray] w (.bool (!PD y)):=by
 refine aF func230 Z<|box λg J h1=>?_;have W:=h1.aS;have no:¬(0<=y.lo/\y.lo<=y.hi/\y.hi<=1099511627776)->Value.bool true=.bool (!PD y):=λh=>by
  cases z:PD y with
  |false=>rfl
  |true=>exact absurd (po.1 z) h
 refine go<|cD (λq=>?_) λV=>?_
 .exact aQ _ U ⟨no λh=>Y,h1.ae⟩
 refine go<|cD (λq=>?_) λO=>?_
 .exact aQ _ U ⟨no λh=>Y,h1.ae⟩
 refine go<|cD (λq=>?_) λM=>?_
 .exact aQ _ U ⟨no λh=>Y,h1.ae⟩
 .exact aQ _ U ⟨by rw[show PD y=true from po.2 Y];rfl,h1.ae⟩
theorem Rs{xs:List Rg}(h:bS GD D w A n xs):aK prog 306 #[aB A n c,.func (.func 230) #[] #[]] w (λv w'=>(∃i:Int,v=iv i/\(0<=i↔xs.all PD=false))/\ax w w'):=by
 refine aF func306 Z<|an<|aM (λk:Nat=>[(8,iv (k:Int))]) (λk w'=>k<=n/\ax w w'/\xs.all PD=(xs.drop k).all PD) (λk _=>n-k) 0 ⟨U,Yt⟩ ⟨Y,.refl _ _,U⟩ U ?_;rintro G k w' ⟨hk,xw,he⟩;refine cD (λhlt=>?_) λhge=>?_
 .obtain⟨b,o,cs,x,rfl,hx,O,-,hc,J⟩:=(h.ae xw).au (show k<n from Y);rw[O,atv] at he;subst J;refine go<|dt (Oo (y:=x)) (λw2 g x2=>?_) λw2 g x2=>?_
  .refine aQ _ U ⟨⟨k,U,?_⟩,xw.trans x2⟩;simp only[atj] at g;rw[he,show PD x=false from g];simp
  .simp only[atb] at g;refine eD (by have:=h.le;omega)<|next (k+1) ⟨Yn,Yt⟩ ⟨Y,xw.trans x2,?_⟩ Y;rw[he,show PD x=true from g];rfl
 .exact LO
theorem Oq{xs:List Rg}(h:bS GD D w A n xs):aA 229 #[aB A n c,.func (.func 230) #[] #[]] w (.bool (!xs.all PD)):=by
 refine aF func229 Z<|aJ (Rs h) ?_;rintro _ z ⟨⟨i,rfl,hi⟩,u⟩;refine cD (λg=>?_) λg=>?_
 .exact aQ _ U ⟨by rw[hi.1 g];rfl,u⟩
 .refine aQ _ U ⟨?_,u⟩;cases q:xs.all PD with
  |true=>rfl
  |false=>exact absurd (hi.2 q) g
theorem Rt{xs:List Rg}(h:bS GD D w A n xs):aA 154 #[aB A n c] w (.bool (qw xs)):=by
 apply aF func154 Z;have z:=h.an;refine an<|cR Rr (λg=>?_) λg=>?_
 .refine dt (Oq h) (λJ q u=>?_) λJ q u=>?_
  .exact aQ _ U ⟨by unfold qw;rw[z,g];simp only[atj] at q;rw[q];rfl,u⟩
  .exact aQ _ U ⟨by unfold qw;rw[z,g];simp only[atb] at q;rw[q];rfl,u⟩
 .exact aQ _ U ⟨by unfold qw;rw[z,g];rfl,.refl _ _⟩
theorem Ot{n:Int}:aA 156 #[iv n] w (.bool (!Ch n)):=by
 refine aF func156 Z<|cR Rr (λg=>?_) λg=>?_
 .exact aQ _ U ⟨by rw[show Ch n=true from g];rfl,.refl _ _⟩
 .exact aQ _ U ⟨by rw[show Ch n=false from g];rfl,.refl _ _⟩
theorem Vm{xs:aX}(h:bS cO D w A n xs):aK prog 231 #[aB A n c,.func (.func 156) #[] #[]] w (λv w'=>(∃i:Int,v=iv i/\(0<=i↔xs.all Ch=false))/\ax w w'):=by
 refine aF func231 Z<|an<|aM (λk:Nat=>[(8,iv (k:Int))]) (λk w'=>k<=n/\ax w w'/\xs.all Ch=(xs.drop k).all Ch) (λk _=>n-k) 0 ⟨U,Yt⟩ ⟨Y,.refl _ _,U⟩ U ?_;rintro G k w' ⟨hk,xw,he⟩;refine cD (λhlt=>?_) λhge=>?_
 .obtain⟨b,o,cs,x,rfl,hx,O,-,hc,J⟩:=(h.ae xw).au (show k<n from Y);rw[O,atv] at he;obtain⟨rfl,-⟩:=J;refine go<|dt (Ot (n:=x)) (λw2 g x2=>?_) λw2 g x2=>?_
  .refine aQ _ U ⟨⟨k,U,?_⟩,xw.trans x2⟩;simp only[atj] at g;rw[he,show Ch x=false from g];simp
  .simp only[atb] at g;refine eD (by have:=h.le;omega)<|next (k+1) ⟨Yn,Yt⟩ ⟨Y,xw.trans x2,?_⟩ Y;rw[he,show Ch x=true from g];rfl
 .exact LO
theorem Ru{xs:aX}(h:bS cO D w A n xs):aA 155 #[aB A n c,.func (.func 156) #[] #[]] w (.bool (!xs.all Ch)):=by
 refine aF func155 Z<|aJ (Vm h) ?_;rintro _ z ⟨⟨i,rfl,hi⟩,u⟩;refine cD (λg=>?_) λg=>?_
 .exact aQ _ U ⟨by rw[hi.1 g];rfl,u⟩
 .refine aQ _ U ⟨?_,u⟩;cases q:xs.all Ch with
  |true=>rfl
  |false=>exact absurd (hi.2 q) g
end
structure lK where
 body:Int
 period:Int
 oH:Int
 Ci:Int
abbrev lK.c(x:lK):aW:=[iv x.body,iv x.period,iv x.oH,iv x.Ci]
def GF:Ty lK:=JS 4 lK.c λ_=>rfl
def tR(x:lK):Bool:=dS x.body 0 63&&(dS x.period 0 15&&(dS x.oH 0 1073741824&&dS x.Ci 0 1048576))
def lK.no(x:lK):Int:=16*x.body+x.period
def uu:Int->List lK->Bool
 |_,[]=>true
 |last,x::l=>tR x&&(decide (last<x.no)&&uu x.no l)
def kZ(l:List lK):Int:=if 256<l.length then 2 else if uu (-1) l then 0 else 380
def im:Int->List eV->Bool
 |_,[]=>true
 |last,x::l=>decide (last<x.body)&&im x.body l
def py(l:List lK)(p:List eV):Int:=if kZ l≠0 then kZ l else if mJ p≠0 then mJ p else if im (-1) p then 0 else 380
section
variable {D:Nat->Prop} {w:World} {A:Option Addr} {n c:Nat}
theorem Ou{x:eV}{cs:aW}(z:kF.uF D w cs x):aA 152 #[.agg cs.toArray] w (.bool (!jn x)):=by
 obtain⟨A,n,c,B,m,e,rfl,J,hs,O,he,V⟩:=kH z;have lb:=J.an;have ls:=hs.an;refine aF func152 Z<|box λg M h1=>?_;have W:=h1.aS;refine go<|cD (λq=>?_) λq=>?_
 .exact aQ _ U ⟨by unfold jn;rw[lb,ls,asG Y];rfl,h1.ae⟩
 .exact aQ _ U ⟨by unfold jn;rw[lb,ls,asE Y];rfl,h1.ae⟩
theorem Vo{xs:List eV}(h:bS kF D w A n xs):aK prog 228 #[aB A n c,.func (.func 152) #[] #[]] w (λv w'=>(∃i:Int,v=iv i/\(0<=i↔xs.all jn=false))/\ax w w'):=by
 refine aF func228 Z<|an<|aM (λk:Nat=>[(8,iv (k:Int))]) (λk w'=>k<=n/\ax w w'/\xs.all jn=(xs.drop k).all jn) (λk _=>n-k) 0 ⟨U,Yt⟩ ⟨Y,.refl _ _,U⟩ U ?_;rintro G k w' ⟨hk,xw,he⟩;refine cD (λhlt=>?_) λhge=>?_
 .obtain⟨b,o,cs,x,rfl,hx,O,-,hc,J⟩:=(h.ae xw).au (show k<n from Y);rw[O,atv] at he;obtain⟨A1,n1,c1,B1,m1,e1,rfl,-⟩:=kH J;refine go<|dt (Ou J) (λw2 g x2=>?_) λw2 g x2=>?_
  .refine aQ _ U ⟨⟨k,U,?_⟩,xw.trans x2⟩;simp only[atj] at g;rw[he,show jn x=false from g];simp
  .simp only[atb] at g;refine eD (by have:=h.le;omega)<|next (k+1) ⟨Yn,Yt⟩ ⟨Y,xw.trans x2,?_⟩ Y;rw[he,show jn x=true from g];rfl
 .exact LO
theorem Rv{xs:List eV}(h:bS kF D w A n xs):aA 151 #[aB A n c,.func (.func 152) #[] #[]] w (.bool (!xs.all jn)):=by
 refine aF func151 Z<|aJ (Vo h) ?_;rintro _ z ⟨⟨i,rfl,hi⟩,u⟩;refine cD (λg=>?_) λg=>?_
 .exact aQ _ U ⟨by rw[hi.1 g];rfl,u⟩
 .refine aQ _ U ⟨?_,u⟩;cases q:xs.all jn with
  |true=>rfl
  |false=>exact absurd (hi.2 q) g
theorem Iw{xs:List eV}(h:bS kF D w A n xs):aA 62 #[aB A n c] w (iv (mJ xs)):=by
 refine aF func62 Z ?_;have hl:=h.an;have hle:=h.le;refine an ?_;refine cD (λq=>?_) λq=>?_
 .exact aQ (iv 2) U ⟨by unfold mJ;rw[asp Y],.refl _ _⟩
 have e0:mJ xs=if xs.all jn=false then 2 else if xs.all kY then 0 else 370:=by unfold mJ;rw[aso Y]
 refine dt (Rv h) (λw1 g x1=>?_) λw1 g x1=>?_
 .simp only[atj] at g;exact aQ (iv 2) U ⟨by rw[e0,asp g],x1⟩
 simp only[atb] at g;have e1:mJ xs=if xs.all kY then 0 else 370:=by rw[e0,aso (by rw[g];simp)]
 refine an ?_;refine aM (λk:Nat=>[(14,iv (k:Int))]) (λk u=>k<=n/\ax w u/\xs.all kY=(xs.drop k).all kY) (λk _=>n-k) 0 ⟨U,Yt⟩ ⟨Y,x1,U⟩ U ?_;rintro G k u ⟨hk,xu,he⟩;refine cD (λhlt=>?_) λhge=>?_
 .obtain⟨b,o,cs,x,rfl,hx,O,-,hc,J⟩:=(h.ae xu).au (show k<n from Y);rw[O,atv] at he;obtain⟨A1,n1,c1,B1,m1,d1,rfl,hb,hs,hc1,V,hI⟩:=kH J;have lb:=hb.an;have ls:=hs.an;refine Uo ?_;intro b6 u1 a1 u2 B6 k2 z2 e6 xu2;have hb2:=hb.ae xu2;have hs2:=hs.ae xu2;have x2:=xu.trans xu2;have bad:kY x=false->iv 370=iv (mJ xs):=λh=>by rw[e1,he,h];rfl
  refine go ?_;refine cR Rr (λp=>?_) λp=>?_;rotate_left
  .exact aQ _ U ⟨bad (by unfold kY;rw[p];rfl),x2⟩
  refine go ?_;refine dt (Rt hb2) (λu3 p2 x3=>?_) λu3 p2 x3=>?_;rotate_left
  .exact aQ _ U ⟨bad (by unfold kY;rw[p,p2];rfl),x2.trans x3⟩
  have B6:=B6.ae x3;refine go ?_;refine cN (λp3=>?_) λp3=>?_
  .exact aQ _ U ⟨bad (by unfold kY;rw[p,p2,asG Y];rfl),x2.trans x3⟩
  refine go ?_;refine dt (Ru (hs2.ae x3)) (λu4 p4 x4=>?_) λu4 p4 x4=>?_
  .simp only[atj] at p4;exact aQ _ U ⟨bad (by unfold kY;rw[p4];simp),(x2.trans x3).trans x4⟩
  simp only[atb] at p4;refine go ?_;refine next (k+1) ⟨Yn,Yt⟩ ⟨Y,(x2.trans x3).trans x4,?_⟩ Y;rw[he];unfold kY;rw[p,p2,p4,asE Y];rfl
 .exact TX
theorem yc{n hi:Int}:aK prog 157 #[iv n,iv hi] w (λv w'=>v=.bool (dS n 0 hi)/\w'=w):=by
 refine aF func157 Z<|HF (λg1=>?_) λg1=>?_
 .exact uB
 exact g_8
end
end Go.Proofs.YtakcjkbnfegidaaGreat
