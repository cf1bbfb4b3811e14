/- Part. -/
import Derived.Test.YtakcjkbnfegidaaGreatPT4
set_option linter.all false
namespace Go.Proofs.YtakcjkbnfegidaaGreat
open Go Go.RowKit Tryz
variable{b c1 c2 c3 c4 c5 c6 g i j n n1 n2 n3 n4 n5 n6 r:Nat}{l:List Mk}{x:Int}{L:List MapEntry}{D:Nat->Prop}{u w w0:World}{seen:List Nat}{e k t:TypeId}{s:Sem Next}{A A1 A2 A3 A4 A5 A6:bZ}{f:Int->List Pt}{S:Int->bZ×Nat×Nat}{d:aU}{cl:aX}{fn:FuncId}{cap:Array Value}
structure zm (d:aU):Prop where
 n:0<d.aD.length/\d.aD.length<=64
 f:d.aR.length<=600
 up0:(dB d 0).up= -1
 up:∀k,0<k->k<d.aD.length->0<=(dB d k).up/\(dB d k).up<k
 rc:∀k,k<d.aD.length->gQ (dB d k)=true
 fm:∀i,i<d.aR.length->0<=(jh d i).aZ/\(jh d i).aZ<d.aD.length
theorem gY{d:aU}(h:cH d=0):zm d:=by
 unfold cH at h;cases h1:jc d with
 |true=>rw[h1] at h;cases h
 |false=>
  rw[h1] at h;cases u:gH d with
  |false=>rw[u] at h;cases h
  |true=>
   obtain⟨z,a2,-,a4,-⟩:=dA.1 u;obtain⟨-,-,-,a5⟩:=ig.1 z;unfold jc at h1;simp only[atb,asv,asy] at h1;have hu:∀k,k<d.aD.length->qf k (dB d k).up=true/\gQ (dB d k)=true:=λk hk=>by have e:=asw hk;rw[jm e];have:=iX a2 e;rwa [as9] at this
   refine⟨⟨a5,h1.1⟩,h1.2.1,?_,λk A hk=>?_,λk hk=>(hu k hk).2,λi hi=>?_⟩
   .have:=(hu 0 a5).1;unfold qf at this;rw[asp U] at this;exact att this
   .have:=(hu k hk).1;unfold qf at this;rw[aso Y] at this;have:=bO.1 this;omega
   .have e:=asw hi;rw[jJ e];have:=asH.1 a4 _ (asq e);unfold nD at this;simp only[asv] at this;have:=bO.1 this.2.1;omega
section
variable {d:aU} {cl hs hd aw:List Int} {mk:List Mk} {E:Int}
theorem oD:oC d cl=true↔cl.length=d.aR.length/\vY cl:=by
 unfold oC JT;simp only[asv,asy,asH]
theorem sY:iJ d cl=0↔cH d=0/\oC d cl=true:=by
 unfold iJ;by_cases h:cH d=0
 .exact Yg
 .rw[asp h];simp[h]
theorem zm.rO(v:zm d)(u:r<d.aD.length):eB (dB d r)=true/\0<=(dB d r).dM/\(dB d r).dM<=1073741824:=by
 obtain⟨-,h1,-,A,z⟩:=eu.1 (v.rc r u);exact⟨z,Y,Y⟩
theorem zm.child(v:zm d)(h:(false,j)∈fF d r):r<j/\j<d.aD.length:=by
 rcases eU.1 h with h|h
 .cases h.1
 .obtain⟨-,z,u⟩:=h;by_cases A:j=0
  .subst A;have:=v.up0;simp only at u;omega
  .have:=v.up j Y z;simp only at u;omega
theorem eR{l:aX}(hi:i<l.length):bL (l.set i x) j=if i=j then x else bL l j:=by
 unfold bL;exact X3
theorem QU(v:zm d){r i:Nat}{x:Int}(h:i<=r)(hi:i<hs.length):dg d cl (hs.set i x) r=dg d cl hs r:=by
 unfold dg;refine at1 λp u=>?_;unfold rN;obtain⟨b,j⟩:=p;cases b with
 |true=>rfl
 |false=>
  have:=(v.child u).1;show bL (hs.set i x) j=bL hs j;rw[eR hi,aso Y]
theorem BM:vY (List.replicate n 0):=λc u=>Yg
theorem jK{l:aX}(h:vY l)(i:Nat):0<=bL l i/\bL l i<=1073741824:=by
 exact XY
theorem sZ(h1:vY cl)(z:vY hs)(r:Nat):vY (dg d cl hs r):=λc u=>by
 obtain⟨p,-,rfl⟩:=asS.1 u;unfold rN;split
 .exact jK h1 _
 .exact jK z _
theorem jy:(dg d cl hs r).length=(fF d r).length:=asz _
theorem zm.an(v:zm d):(dg d cl hs r).length<=664:=by
 rw[jy];have:=HY (d:=d) (r:=r);have:=v.n;have:=v.f;omega
theorem qm(x:Reach)(total:Int)(M:0<=x.dM/\x.dM<=1073741824)(z:eB x=true){u:Int}(h:dD x total=some u):0<=u/\u<=1073741824/\(u=0\/x.dM<=u)/\(0<=total->total<=nC x u):=by
 unfold dD at h;have A:=mZ (w:=total) z;split at h
 .injection h with h;subst h;have:=BF z (v:=0) Y;omega
 .split at h
  .cases h
  .split at h
   .cases h
   .injection h with h;subst h;have h1:=A.le;refine⟨Y,Y,.inr Y,λ_=>?_⟩;have J:=A.yes Y;rw[asy] at J;have:=xS z h1 (show rG x total<=max (rG x total) x.dM from Y);omega
theorem tc(v:zm d):∀(k:Nat) {hs:aX},k<=d.aD.length->dG d cl k=some hs->hs.length=d.aD.length/\vY hs/\∀r,d.aD.length-k<=r->r<d.aD.length->dD (dB d r) (aV (dg d cl hs r))=some (bL hs r)
 |0,hs,_,h=>by
  unfold dG at h
  injection h with h;subst h
  exact⟨atz ..,BM,λr h1 z=>Y⟩
 |k+1,hs,hk,h=>by
  unfold dG at h
  cases h1:dG d cl k with
  |none=>rw[h1] at h;cases h
  |some A=>
   rw[h1] at h
   obtain⟨e1,Z,X⟩:=tc v k Y h1
   dsimp only at h
   cases z:dD (dB d (d.aD.length-1-k)) (aV (dg d cl A (d.aD.length-1-k))) with
   |none=>rw[z] at h;cases h
   |some u=>
    rw[z] at h
    injection h with h;subst h
    obtain⟨j,W⟩:∃j,j=d.aD.length-1-k:=⟨_,rfl⟩
    rw[<-W] at z|-
    have J:j<A.length:=Y
    obtain⟨l1,l2,V⟩:=v.rO (r:=j) Y
    obtain⟨b1,b2,-⟩:=qm _ _ ⟨l2,V⟩ l1 z
    refine⟨by rw[asU];exact e1,λc O=>?_,λr hr M=>?_⟩
    .rcases auV O with O|rfl
     .exact Z c O
     .exact⟨b1,b2⟩
    .rw[QU v Y J,eR J]
     by_cases q:j=r
     .subst q;rw[asp rfl];exact z
     .rw[aso q];exact X r Y M
theorem EA(v:zm d)(h:dT d cl=some hs):hs.length=d.aD.length/\vY hs/\∀r,r<d.aD.length->dD (dB d r) (aV (dg d cl hs r))=some (bL hs r):=by
 obtain⟨h1,A,z⟩:=tc v _ (asN _) h;exact⟨h1,A,λr u=>z r Y u⟩
structure DO (d:aU) (cl hs:aX):Prop where
 v:zm d
 QW:vY cl
 lc:cl.length=d.aR.length
 JU:vY hs
 lh:hs.length=d.aD.length
 nd:∀r,r<d.aD.length->dD (dB d r) (aV (dg d cl hs r))=some (bL hs r)
theorem Gs(h:iJ d cl=0)(u:dT d cl=some hs):DO d cl hs:=by
 obtain⟨h1,z⟩:=sY.1 h;have v:=gY h1;obtain⟨M,a2,a3⟩:=EA v u;obtain⟨J,A⟩:=oD.1 z;exact⟨v,A,J,a2,M,a3⟩
theorem DO.sum(R:DO d cl hs)(r:Nat):0<=aV (dg d cl hs r)/\aV (dg d cl hs r)<=664*1073741824:=by
 have h:=jl (sZ (d:=d) R.QW R.JU r);have:=R.v.an (cl:=cl) (hs:=hs) (r:=r);refine⟨h.1,auJ h.2 ?_⟩;have:((dg d cl hs r).length:Int)<=664:=Y;omega
theorem DO.work(R:DO d cl hs)(z:r<d.aD.length)(A:0<=bL hd r/\bL hd r<=1073741824):jX (ji d cl hs hd r) (dg d cl hs r)=0/\0<=ji d cl hs hd r/\ji d cl hs hd r<=nC (dB d r) (bL hd r)/\ji d cl hs hd r<=aV (dg d cl hs r):=by
 have h1:=BF (R.v.rO z).1 A;have V:=R.sum r;have O:=R.v.an (cl:=cl) (hs:=hs) (r:=r);have M:=sZ (d:=d) R.QW R.JU r;have u:0<=ji d cl hs hd r/\ji d cl hs hd r<=nC (dB d r) (bL hd r)/\ji d cl hs hd r<=aV (dg d cl hs r):=by unfold ji;omega
 refine⟨?_,u⟩;unfold jX;rw[aso Y,asp];rw[asv,asy,asH];refine⟨λc J=>?_,u.1,u.2.2⟩;unfold JT;exact asE (M c J)
theorem H3{n:Int}(h:0<=n):0<=cut d r n/\cut d r n<=n/\(cut d r n=0\/(dB d r).dM<=cut d r n):=by unfold cut;split<;>omega
theorem H4{k:Nat}{p:Pt}(h:(fF d r)[k]? =some p):bL (dg d cl hs r) k=rN cl hs p/\k<(dg d cl hs r).length:=by
 refine⟨cY ?_,?_⟩
 .unfold dg;rw[as6,h];rfl
 .rw[jy];exact(asr.1 h).1
theorem zm.aO(v:zm d)(hi:i<d.aR.length):∃r k:Nat,r<d.aD.length/\(jh d i).aZ=r/\(fF d r)[k]? =some (true,i):=by
 obtain⟨h1,u⟩:=v.fm i hi;have hm:(true,i)∈fF d ((jh d i).aZ.toNat:Nat):=eU.2 (.inl ⟨U,hi,by simp only;omega⟩);obtain⟨k,hk⟩:=ath hm;exact⟨_,k,Y,Y,hk⟩
theorem zm.par(v:zm d)(z:0<j)(u:j<d.aD.length):∃r k:Nat,r<j/\(fF d r)[k]? =some (false,j):=by
 obtain⟨h1,A⟩:=v.up j z u;have hm:(false,j)∈fF d ((dB d j).up.toNat:Nat):=eU.2 (.inr ⟨U,u,by simp only;omega⟩);obtain⟨k,hk⟩:=ath hm;exact⟨_,k,Y,hk⟩
variable {E':Int} {hd' aw':List Int} {mk':List Mk}
theorem oQ.head(D:oQ d cl hs E hd aw mk)(R:DO d cl hs)(Z:0<=E):∀(r:Nat),r<d.aD.length->0<=bL hd r/\bL hd r<=bL hs r/\(bL hd r=0\/(dB d r).dM<=bL hd r):=by
 intro r;induction r using Nat.strongRecOn with
 |ind r u=>
  intro z;by_cases M:r=0
  .subst M;rw[D.top];have:=jK R.JU 0;have:=H3 (d:=d) (r:=0) (n:=min E (bL hs 0)) Y;omega
  .obtain⟨p,k,J,hk⟩:=R.v.par Y z;have ip:=u p J Y;have X:=jK R.JU p;obtain⟨he,-⟩:=R.work (hd:=hd) (r:=p) Y Y;have A:=(D.au p Y).mark.PA he;obtain⟨W,V⟩:=H4 (cl:=cl) (hs:=hs) hk;have b:=A.b k V;rw[(D.au p Y).child k r hk];have:=H3 (d:=d) (r:=r) b.1;have O:bL (dg d cl hs p) k=bL hs r:=W;rw[O] at b this|-;omega
theorem oQ.ok(D:oQ d cl hs E hd aw mk)(R:DO d cl hs)(z:0<=E)(u:r<d.aD.length):0<=bL hd r/\bL hd r<=1073741824:=by
 have:=D.head R z r u;have:=jK R.JU r;omega
theorem oQ.PA(D:oQ d cl hs E hd aw mk)(R:DO d cl hs)(z:0<=E)(u:r<d.aD.length):Awd (dg d cl hs r) (ji d cl hs hd r) (λi=>dC (DN mk r) (bL (dg d cl hs r) i) i):=(D.au r u).mark.PA (R.work u (D.ok R z u)).1
theorem oQ.uniq(D:oQ d cl hs E hd aw mk)(D':oQ d cl hs E hd' aw' mk')(R:DO d cl hs)(_hE:0<=E):hd=hd'/\aw=aw'/\mk=mk':=by
 have M:∀(r:Nat),r<d.aD.length->bL hd r=bL hd' r/\DN mk r=DN mk' r:=by
  intro r;induction r using Nat.strongRecOn with
  |ind r W=>
   intro u;have V:bL hd r=bL hd' r:=by
    by_cases Z:r=0
    .subst Z;rw[D.top,D'.top]
    .obtain⟨p,k,X,hk⟩:=R.v.par Y u;rw[(D.au p Y).child k r hk,(D'.au p Y).child k r hk,(W p X Y).2]
   refine⟨V,?_⟩;have h1:=(D.au r u).mark;have O:=(D'.au r u).mark;unfold ji at h1 O;rw[V] at h1;exact h1.uniq O
 have ext:∀{l A:aX} {n:Nat},l.length=n->A.length=n->(∀i,i<n->bL l i=bL A i)->l=A:=λ{l A n} h1 O h=>by refine at8 Y λi z J=>?_;have:=h i Y;rwa [cY (asw z),cY (asw J)] at this
 refine⟨ext D.lh D'.lh λr u=>(M r u).1,ext D.la D'.la λi hi=>?_,at8 (by rw[D.lm,D'.lm]) λi z J=>?_⟩
 .obtain⟨r,k,u,-,hk⟩:=R.v.aO hi;rw[(D.au r u).aO k i hk,(D'.au r u).aO k i hk,(M r u).2]
 .have:=(M i (by rw[<-D.lm];exact z)).2;unfold DN at this;rwa [asC,asC,asw z,asw J] at this
theorem Awd.all{l:aX}{E:Int}{a:Nat->Int}(h:Awd l E a)(he:E=aV l):∀i,i<l.length->a i=bL l i:=λi hi=>by
 by_cases q:a i=bL l i
 .exact q
 exfalso;have z:=h.b i hi;have:=FX (f:=a) (g:=bL l) (n:=l.length) (λj u=>(h.b j u).2) ⟨i,hi,Y⟩;rw[h.s,zW] at this;omega
theorem oQ.met(D:oQ d cl hs E hd aw mk)(R:DO d cl hs)(Z:0<=E):∀i,i<d.aR.length->0<=bL aw i/\bL aw i<=bL cl i/\(bL hs 0<=E->bL aw i=bL cl i):=by
 have full:bL hs 0<=E->∀(r:Nat),r<d.aD.length->bL hd r=bL hs r/\ji d cl hs hd r=aV (dg d cl hs r):=by
  intro W r;induction r using Nat.strongRecOn with
  |ind r ih=>
   intro u;have O:∀j,j<d.aD.length->0<=bL hs j/\(bL hs j=0\/(dB d j).dM<=bL hs j)/\aV (dg d cl hs j)<=nC (dB d j) (bL hs j):=λj X=>by obtain⟨l1,l2,l3⟩:=R.v.rO X;obtain⟨b1,-,b3,b4⟩:=qm _ _ ⟨l2,l3⟩ l1 (R.nd j X);exact⟨b1,b3,b4 (R.sum j).1⟩
   have e:bL hd r=bL hs r:=by
    by_cases h0:r=0
    .subst h0;rw[D.top];have:=O 0 u;unfold cut;split<;>omega
    .obtain⟨p,k,hp,hk⟩:=R.v.par Y u;have z:p<d.aD.length:=Y;obtain⟨V,M⟩:=H4 (cl:=cl) (hs:=hs) hk;rw[(D.au p z).child k r hk,(D.PA R Z z).all (ih p hp z).2 k M,V];show cut d r (bL hs r)=bL hs r;have:=O r u;unfold cut;split<;>omega
   refine⟨e,?_⟩;have:=O r u;unfold ji;rw[e];omega
 intro i hi;obtain⟨r,k,u,-,hk⟩:=R.v.aO hi;obtain⟨V,M⟩:=H4 (cl:=cl) (hs:=hs) hk;have J:bL (dg d cl hs r) k=bL cl i:=V;rw[(D.au r u).aO k i hk];have A:=D.PA R Z u;have b:=A.b k M;rw[J] at b;refine⟨by rw[J];exact b.1,by rw[J];exact b.2,λW=>?_⟩;rw[A.all (full W r u).2 k M,J]
end
structure zn (d:aU) (cl hs:aX) (E:Int) (hd aw:aX) (mk:List Mk) (i:Nat):Prop where
 lh:hd.length=d.aD.length
 la:aw.length=d.aR.length
 lm:mk.length=d.aD.length
 oh:vY hd
 oa:vY aw
 top:bL hd 0=cut d 0 (min E (bL hs 0))
 au:∀r,r<i->Xz d cl hs hd aw mk r
structure zp (d:aU) (cl hs:aX) (E:Int) (hd aw:aX) (mk:List Mk) (i k:Nat) (m:Mk):Prop where
 b:zn d cl hs E hd aw mk i
 mi:DN mk i=m
 mm:dX (ji d cl hs hd i) (dg d cl hs i) m
 f:∀j f,j<k->(fF d i)[j]? =some (true,f)->bL aw f=dC m (bL (dg d cl hs i) j) j
 c:∀j f,j<k->(fF d i)[j]? =some (false,f)->bL hd f=cut d f (dC m (bL (dg d cl hs i) j) j)
section
variable {d:aU} {cl hs hd aw:List Int} {mk:List Mk} {E:Int} {i k:Nat} {m:Mk}
theorem Mq{x:Mk}(hi:i<l.length):DN (l.set i x) j=if i=j then x else DN l j:=by
 unfold DN;exact X3
theorem Gu{l:aX}(h:vY l)(u:0<=x/\x<=1073741824):vY (l.set i x):=λc z=>Yg
theorem zn.ok(D:zn d cl hs E hd aw mk i)(r:Nat):0<=bL hd r/\bL hd r<=1073741824:=jK D.oh r
theorem zn.mark(D:zn d cl hs E hd aw mk i)(hi:i<d.aD.length)(hm:dX (ji d cl hs hd i) (dg d cl hs i) m):zp d cl hs E hd aw (mk.set i m) i 0 m:=by
 have A:=D.lm;have u:i<mk.length:=Y;refine⟨⟨D.lh,D.la,by rw[asU];exact A,D.oh,D.oa,D.top,λr z=>?_⟩,by rw[Mq u,asp U],hm,λj f J=>Y,λj f J=>Y⟩;obtain⟨a,b,c⟩:=D.au r z;have e:DN (mk.set i m) r=DN mk r:=by rw[Mq u,aso Y]
 exact⟨by rw[e];exact a,λk i h=>by rw[e];exact b k i h,λk i h=>by rw[e];exact c k i h⟩
theorem H5{α:Type}{l:List α}(h:l.Nodup){x:α}(hi:l[i]? =some x)(A:l[j]? =some x):i=j:=by
 have h1:=(asr.1 hi);have J:=(asr.1 A);obtain⟨a,z⟩:=h1;obtain⟨b,u⟩:=J;rcases awn i j with q|q|q
 .exact absurd (z.trans u.symm) (ato.1 h i j a b q)
 .exact q
 .exact absurd (u.trans z.symm) (ato.1 h j i b a q)
theorem zp.val(D:zp d cl hs E hd aw mk i k m)(R:DO d cl hs)(hi:i<d.aD.length)(hk:k<(fF d i).length):0<=dC m (bL (dg d cl hs i) k) k/\dC m (bL (dg d cl hs i) k) k<=1073741824:=by
 have h1:=(R.work (hd:=hd) hi (D.b.ok i)).1;exact Ex (D.mm.PA h1) (sZ R.QW R.JU i) (by rw[jy];exact hk)
theorem zp.aO(D:zp d cl hs E hd aw mk i k m)(R:DO d cl hs)(hi:i<d.aD.length){f:Nat}(hk:(fF d i)[k]? =some (true,f)):zp d cl hs E hd (aw.set f (dC m (bL (dg d cl hs i) k) k)) mk i (k+1) m:=by
 have hm:=eU.1 (asq hk);have hm:f<d.aR.length/\(jh d f).aZ=i:=by
  rcases hm with h|h
  .exact h.2
  .cases h.1
 have J:=D.b.la;have hf:f<aw.length:=Y;have hv:=D.val R hi (asr.1 hk).1;refine⟨⟨D.b.lh,by rw[asU];exact J,D.b.lm,D.b.oh,Gu D.b.oa hv,D.b.top,λr hr=>?_⟩,D.mi,D.mm,λj g hj h=>?_,λj g hj h=>?_⟩
 .obtain⟨a,b,c⟩:=D.b.au r hr;refine⟨a,λj g h=>?_,c⟩;rw[eR hf,aso λe=>?_]
  .exact b j g h
  .subst e;rcases eU.1 (asq h) with q|q
   .have:=q.2.2;simp only at this;omega
   .cases q.1
 .rw[eR hf];by_cases e:f=g
  .subst e;rw[asp U,H5 qk h hk]
  .rw[aso e];by_cases q:j=k
   .exact YZ
   .exact D.f j g Y h
 .by_cases q:j=k
  .subst q;rw[hk] at h;injection h with h;injection h with h;cases h
  .exact D.c j g Y h
theorem zp.child(D:zp d cl hs E hd aw mk i k m)(R:DO d cl hs)(hi:i<d.aD.length){f:Nat}(hk:(fF d i)[k]? =some (false,f)):zp d cl hs E (hd.set f (cut d f (dC m (bL (dg d cl hs i) k) k))) aw mk i (k+1) m:=by
 have hc:=R.v.child (asq hk);have V:(dB d f).up=i:=by
  rcases eU.1 (asq hk) with h|h
  .cases h.1
  .exact h.2.2
 have J:=D.b.lh;have hf:f<hd.length:=Y;have hv:=D.val R hi (asr.1 hk).1;have a6:=H3 (d:=d) (r:=f) hv.1;have O:∀r,r<=i->ji d cl hs (hd.set f (cut d f (dC m (bL (dg d cl hs i) k) k))) r=ji d cl hs hd r:=λr hr=>by unfold ji;rw[eR hf,aso Y]
 refine⟨⟨by rw[asU];exact J,D.b.la,D.b.lm,Gu D.b.oh Y,D.b.oa,by rw[eR hf,aso Y];exact D.b.top,λr hr=>?_⟩,D.mi,by rw[O i (asN _)];exact D.mm,λj g hj h=>?_,λj g hj h=>?_⟩
 .obtain⟨a,b,c⟩:=D.b.au r hr;refine⟨by rw[O r Y];exact a,b,λj g h=>?_⟩;rw[eR hf,aso λe=>?_]
  .exact c j g h
  .subst e;rcases eU.1 (asq h) with q|q
   .cases q.1
   .have:=q.2.2;simp only at this;omega
 .by_cases q:j=k
  .subst q;rw[hk] at h;injection h with h;injection h with h;cases h
  .exact D.f j g Y h
 .rw[eR hf];by_cases e:f=g
  .subst e;rw[asp U,H5 qk h hk]
  .rw[aso e];by_cases q:j=k
   .exact YZ
   .exact D.c j g Y h
theorem zp.done(D:zp d cl hs E hd aw mk i k m)(hk:(fF d i).length<=k):zn d cl hs E hd aw mk (i+1):=by
 refine⟨D.b.lh,D.b.la,D.b.lm,D.b.oh,D.b.oa,D.b.top,λr u=>?_⟩;by_cases e:r=i
 .subst e;exact⟨by rw[D.mi];exact D.mm,λj g h=>by rw[D.mi];exact D.f j g (by have:=(asr.1 h).1;omega) h,λj g h=>by rw[D.mi];exact D.c j g (by have:=(asr.1 h).1;omega) h⟩
 .exact D.b.au r Y
theorem zn.all(D:zn d cl hs E hd aw mk d.aD.length):oQ d cl hs E hd aw mk:=⟨D.lh,D.la,D.lm,D.top,D.au⟩
theorem zn.bH(R:DO d cl hs)(A:0<=E):zn d cl hs E ((List.replicate d.aD.length 0).set 0 (cut d 0 (min E (bL hs 0)))) (List.replicate d.aR.length 0) (List.replicate d.aD.length Mk.none) 0:=by
 have J:=jK R.JU 0;have z:=H3 (d:=d) (r:=0) (n:=min E (bL hs 0)) Y;refine⟨by rw[asU,atz],atz ..,atz ..,Gu BM Y,BM,?_,λr u=>Y⟩;rw[eR (by rw[atz];exact R.v.n.1),asp U]
end
def U1(a b:aX):Prop:=a.length=b.length/\∀i,i<a.length->bL a i<=bL b i
theorem U1.refl(a:aX):U1 a a:=⟨rfl,λ_ _=>asO _⟩
theorem U1.au{a b:aX}(h:U1 a b)(i:Nat):bL a i<=bL b i:=by
 by_cases hi:i<a.length
 .exact h.2 i hi
 .unfold bL;rw[asC,asC,as1 Y,as1 (by have:=h.1;omega)];exact asO _
theorem EB{α:Type}{f g:α->Int}:∀{l:List α},(∀x∈l,f x<=g x)->aV (l.map f)<=aV (l.map g)
 |[],_=>asO _
 |x::l,h=>by
  have:=EB (l:=l) λy u=>h y (ast _ u)
  have z:=h x ass
  unfold aV at*
  simp only[asQ,atu]
  omega
theorem QX{r:Reach}{t u:Int}(z:eB r=true)(h:t<=u):rG r t<=rG r u:=by
 have a:=mZ (w:=t) z;have b:=mZ (w:=u) z;by_cases q:rG r t<=rG r u
 .exact q
 exfalso;have h1:=a.no (rG r u) b.le Y;have A:=b.yes (by have:=a.ge;omega);rw[asy] at A;rw[asZ] at h1;omega
theorem Kx{r:Reach}{t z v':Int}(A:eB r=true)(M:0<=t)(h:t<=z)(hs:0<=r.dM/\r.dM<=1073741824)(u:dD r z=some v'):∃v,dD r t=some v/\v<=v':=by
 have J:=qm r _ hs A u;unfold dD at u|-;by_cases e:t=0
 .rw[asp e];exact⟨0,U,J.1⟩
 .rw[aso e];rw[aso Y] at u;have hm:=QX A h;split at u
  .cases u
  .rw[aso Y];split at u
   .cases u
   .rw[aso Y];injection u with u;exact⟨_,U,Y⟩
section
variable {d:aU} {aw aw' hs hs':List Int}
theorem N8(h:U1 aw aw')(k:U1 hs hs')(r:Nat):aV (dg d aw hs r)<=aV (dg d aw' hs' r):=by
 unfold dg;refine EB λp _=>?_;unfold rN;split
 .exact h.au _
 .exact k.au _
theorem yR(v:zm d)(h:U1 aw aw')(o:vY aw)(Z:vY aw'):∀(k:Nat) {hs':aX},k<=d.aD.length->dG d aw' k=some hs'->∃hs,dG d aw k=some hs/\U1 hs hs'
 |0,hs',_,hk=>by
  injection hk with hk
  exact⟨_,rfl,by rw[<-hk];exact U1.refl _⟩
 |k+1,hs',a6,hk=>by
  rw[dG] at hk
  cases h1:dG d aw' k with
  |none=>rw[h1] at hk;cases hk
  |some A=>
   rw[h1] at hk
   dsimp only at hk
   obtain⟨O,X,z⟩:=yR v h o Z k Y h1
   obtain⟨l0,J,-⟩:=tc v k Y X
   obtain⟨j,W⟩:∃j,j=d.aD.length-1-k:=⟨_,rfl⟩
   rw[<-W] at hk
   cases V:dD (dB d j) (aV (dg d aw' A j)) with
   |none=>rw[V] at hk;cases hk
   |some u'=>
    rw[V] at hk
    injection hk with hk
    obtain⟨a1,a2,a3⟩:=v.rO (r:=j) Y
    obtain⟨u,hu,M⟩:=Kx a1 (jl (sZ o J j)).1 (N8 h z j) ⟨a2,a3⟩ V
    refine⟨O.set j u,?_,?_⟩
    .rw[dG,X]
     dsimp only
     rw[<-W,hu]
    .rw[<-hk]
     refine⟨by rw[asU,asU];exact z.1,λi hi=>?_⟩
     rw[asU] at hi
     have:=z.1
     rw[eR Y,eR Y]
     split
     .exact M
     .exact z.2 i hi
variable {f t:Nat} {x n m:Int}
variable {bf:List Int}
end
section
open Go.ChangeMaps
theorem mN.nodup{c:Nat}(h:mN L c):(L.map (·.born)).Nodup:=by
 rw[atw,atN,ato];intro i j hi u z e;have:=(h i L[i] (asw hi)).2 j L[j] (asw u) e.symm;omega
def IterM(w:World)(r g c:Nat)(seen:List Nat):Prop:=w.heap[r]? =some (.mapIter (some g) c seen.toArray c)
theorem IterM.ah{c:Nat}(h:IterM w r g c seen)(k:aj D w u)(z:D r):IterM u r g c seen:=(k.aS r (asV.1 h).1 z).trans h
theorem N9{o0 o:Obj}(hb:w0.heap[g]? =some o0):aj (λb=>b≠g) (z w0) (z {w0 with heap:=w0.heap.setIfInBounds g o})/\(z {w0 with heap:=w0.heap.setIfInBounds g o}).heap[g]? =some o:=by
 exact aou
section
variable {P:Program} {κ:Type} {kv:κ->Value}
theorem U3[hm:jx P t k e]{c:Nat}{K:VK}{X:XK}(hs:s=vS (Instr.range t (.map (some g))))(h:qX kv w g L c)(A:∀u,qX kv u g L c->IterM u w.heap.size g c []->ax w u->u.heap.size=w.heap.size+1->K (.pointer (some (ad w.heap.size 0))) u):xC P s K X w:=by
 subst hs;rw[fP];refine mB.x λw0 hw=>?_;subst hw;have J:w0.heap[g]? =some (.map L.toArray c):=h.au;rw[gG];unfold Instr.range;simp only[asI,asX (jI hm.h),asJ,atQ J,atr,run_newObj];have x:ax (z w0) (z (w0.alloc (.mapIter (some g) c #[] c))):=⟨rfl,rfl,rfl,by show w0.heap.size<=(w0.heap.push _).size;simp,λi hi _=>by show(w0.heap.push _)[i]? =w0.heap[i]?;rw[Array.getElem?_push,aso (by have:i<w0.heap.size:=hi;omega)]⟩
 exact A _ (h.ah x Yt) (by show(w0.heap.push _)[w0.heap.size]? =_;simp) x (by show(w0.heap.push _).size=w0.heap.size+1;simp)
theorem U4{ty:TypeId}{c:Nat}{K:VK}{X:XK}(hs:s=vS (Instr.next (.pointer (some (ad r 0))) false ty))(h:qX kv w g L c)(hi:IterM w r g c seen)(k1:(∀e∈L,e.born∈seen)->K (.tuple #[.bool false]) w)(k2:∀e∈L,e.born∉seen->∀J,qX kv J g L c->IterM J r g c (seen++[e.born])->aj (λb=>b≠r) w J->J.heap.size=w.heap.size->K (.tuple #[.bool true,e.key,e.val]) J):xC P s K X w:=by
 subst hs;rw[fP];refine mB.x λw0 hw=>?_;subst hw;have Y:w0.heap[g]? =some (.map L.toArray c):=h.au;have M:w0.heap[r]? =some (.mapIter (some g) c seen.toArray c):=hi;have V:r≠g:=λe=>by rw[e,Y] at M;cases M
 have hold:∀x∈L.toArray.toList,x.born<c:=λx hx=>by obtain⟨i,hi⟩:=ath (show x∈L from hx);exact(h.born i x hi).1
 have A:∀x,x∈(leftOf L.toArray seen.toArray).toList↔x∈L/\x.born∉seen:=λx=>by unfold leftOf;simp
 rw[gG];rcases run_next_at (P:=P) w0 ty r g c c seen.toArray L.toArray c M Y hold (asN _) with⟨h0,u⟩|⟨e,he,Z,O,u⟩
 .rw[u];refine k1 λe he=>Classical.byContradiction λhn=>?_;have:=(A e).2 ⟨he,hn⟩;rw[Array.eq_empty_of_size_eq_zero h0] at this;cases this
 .rw[u];obtain⟨h1,h2⟩:=(A e).1 he;have hh:z (setBlock Z r (.mapIter (some g) c (seen.toArray.push e.born) c))=z {w0 with heap:=w0.heap.setIfInBounds r (.mapIter (some g) c (seen++[e.born]).toArray c)}:=by rw[List.push_toArray];rcases O with rfl|rfl<;>rfl
  show K _ (z _);rw[hh];obtain⟨W,q2⟩:=N9 (o:=.mapIter (some g) c (seen++[e.born]).toArray c) M;exact k2 e h1 h2 _ (h.ah W λe=>V e.symm) q2 W (by simp[z])
theorem amP{c:Nat}{e:MapEntry}{K:VK}{X:XK}(hs:s=vS (Instr.entry (.pointer (some (ad r 0)))))(h:qX kv w g L c)(he:e∈L)(hi:IterM w r g c (seen++[e.born]))(u:K (.tuple #[e.key,e.val]) w):xC P s K X w:=by
 subst hs;rw[fP];refine mB.x λw0 hw=>?_;subst hw;have z:w0.heap[r]? =some (.mapIter (some g) c (seen.toArray.push e.born) c):=by rw[List.push_toArray];exact hi
 rw[gG,run_entry_at (P:=P) w0 r g c seen.toArray L.toArray c e z h.au (by simpa using he) h.born.nodup];exact u
abbrev fY(i:Int):Value:=.int .i64 i
theorem EC:∀(L:List MapEntry) (a:Int) (i:Nat),(∀e∈L,∃q,e.key=fY q)->Instr.findNow (.int .i64) (fY a) L i=some (gz (fY a) L i)
 |[],_,_,_=>rfl
 |e::r,a,i,h=>by
  obtain⟨q,A⟩:=h e ass
  have u:=EC r a (i+1) λx z=>h x (ast _ z)
  unfold Instr.findNow gz
  rw[A]
  simp only[Instr.sameNow,auM]
  by_cases hk:a=q
  .subst hk;simp
  .have h1:¬(fY q=fY a):=λe=>by injection e with _ e;exact hk e.symm
   have J:=av2.2 hk
   rw[aso h1,J]
   exact u
theorem aqx(hu:P.underlying k=some (.int .i64)):rD P k fY where
 inj a b h:=by injection h
 UA b a w:=xO hu b a w
 bits a:=by simp[Instr.sameBits]
 Xp a L w h:=zh hu (EC L a 0 h) w
theorem qX.new(kv:κ->Value)(w:World):qX kv (w.alloc (.map #[] 0)) w.heap.size [] 0:=⟨by unfold World.alloc;simp,λ_ h=>(by cases h),λi e h=>by simp at h⟩
end
end
instance apY:rD prog 3 fY:=aqx Tryz.underlying3
abbrev Gv(p:Pt):aW:=[.bool p.1,iv (p.2:Int)]
def tPt:Ty Pt:=JS 2 Gv λ_=>rfl
abbrev UB(l:List Pt):aW:=l.flatMap Gv
theorem H6{D:Nat->Prop}{w:World}:∀{s:List Pt},dW tPt D w s (UB s)
 |[]=>rfl
 |x::s=>⟨Gv x,UB s,rfl,rfl,H6⟩
theorem U5{a b:List Pt}:UB (a++b)=UB a++UB b:=as7
theorem Gy:∀{a:List Pt},(UB a).length=a.length*2
 |[]=>rfl
 |x::a=>by show(Gv x++UB a).length=(a.length+1)*2;rw[asu,Gy];show 2+_=_;omega
def XA(A B:bZ):Prop:=∀g,A=some (ad g 0)->B≠some (ad g 0)
theorem XA.symm{B:bZ}(h:XA A B):XA B A:=λg h1 u=>h g u h1
theorem vZ{c sz:Nat}{cs xs:aW}(h:bu w0 w A n c e sz cs)(J:aP w b t xs)(u:t≠e):A≠aL b:=λM=>by
 obtain⟨rest,z,_⟩:=jH.aS (M▸h.own);exact u (J.uniq z).1
theorem xV{κ:Type}{kv:κ->Value}{f:κ->Option Value}{c sz:Nat}{cs:aW}(h:bu w0 w A n c e sz cs)(z:dw kv w b f):A≠aL b:=λM=>by
 obtain⟨rest,u,_⟩:=jH.aS (M▸h.own);obtain⟨L,q,J,-⟩:=z;have h1:w.heap[b]? =_:=u;rw[J.au] at h1;cases h1
structure BN (w0 u:World) (g:Nat) (f:Int->List Pt) (S:Int->bZ×Nat×Nat):Prop where
 map:∃m:Int->Option Value,dw fY u g m/\∀r,(m r).getD (.slice none 0 0)=.slice (S r).1 (S r).2.1 (S r).2.2
 own:∀r,bu w0 u (S r).1 (S r).2.1 (S r).2.2 270 2 (UB (f r))
 dj:∀r r',r≠r'->XA (S r).1 (S r').1
theorem BN.an(h:BN w0 u g f S)(r:Int):(S r).2.1=(f r).length:=by
 have:=(h.own r).own.an;rw[Gy] at this;omega
theorem BN.ae{u':World}(h:BN w0 u g f S)(k:ax u u'):BN w0 u' g f S:=by
 exact Yw
theorem BN.step{v z:World}{f':Int->List Pt}{m:Int->Option Value}(r:Int){p:Pt}{A':bZ}{n' c':Nat}(h3:∀r,bu w0 u (S r).1 (S r).2.1 (S r).2.2 270 2 (UB (f r)))(h4:∀r r',r≠r'->XA (S r).1 (S r').1)(hm:∀r,(m r).getD (aY)=aB (S r).1 (S r).2.1 (S r).2.2)(o:bu w0 v A' n' c' 270 2 (UB (f r)++Gv p))(k:aj (λb=>(S r).1≠aL b) u v)(hA:A'=(S r).1\/A'=none\/∃t:World,A'=aL t.heap.size/\ax u t){f0:Int->Option Value}(M4:dw fY v g f0)(M:dw fY z g (dZ m r (aB A' n' c')))(k5:aj (λb=>b≠g) v z)(x:ax w0 z)(hf:∀q,f' q=if q=r then f r++[p] else f q):∃J,BN w0 z g f' J:=by
 refine⟨λq=>if q=r then(A',n',c') else S q,⟨_,M,λq=>?_⟩,λq=>?_,λq q' hqq=>?_⟩
 .exact YI
 .rw[hf q];by_cases e:q=r
  .simp only[asp e];rw[U5];exact YL
  .exact aoF
 .exact an6
structure wc (D:Nat->Prop) (w:World) (g:Nat) (d:aU):Prop where
 own:D g
 ex:∃m:Int->Option Value,dw fY w g m/\∀r:Int,∃A n c,(m r).getD (.slice none 0 0)=.slice A n c/\bS tPt D w A n (fF d r)/\n<=c
theorem wc.ah{D':Nat->Prop}(h:wc D w g d)(k:aj D' w u)(hd:∀b,b<w.heap.size->D b->D' b):wc D u g d:=by
 obtain⟨z,m,h1,M⟩:=h;refine⟨z,m,h1.ah k (hd g h1.lt z),λr=>?_⟩;obtain⟨A,n,c,e,hs,J⟩:=M r;exact⟨A,n,c,e,hs.ah k hd,J⟩
theorem wc.ae(h:wc D w g d)(k:ax w u):wc D u g d:=h.ah k λ_ _ _=>Yt
section
variable {D:Nat->Prop} {w:World}
set_option maxRecDepth 4000 in
theorem Gz(hr:bS lH D w A1 n1 d.aD)(hf:bS yQ D w A2 n2 d.aR)(hn:d.aD.length<=64/\d.aR.length<=600):aK prog 108 #[.agg #[.string d.name,iv d.aG,iv d.cap,iv d.bH,aB A1 n1 c1,aB A2 n2 c2,aB A3 n3 c3,aB A4 n4 c4,aB A5 n5 c5,aB A6 n6 c6]] w (λv w'=>∃g,v=.agg #[.string d.name,iv d.aG,iv d.cap,iv d.bH,aB A1 n1 c1,aB A2 n2 c2,aB A3 n3 c3,aB A4 n4 c4,aB A5 n5 c5,aB A6 n6 c6,.map (some g)]/\ax w w'/\wc (λb=>w.heap.size<=b) w' g d):=by
 have lr:=hr.an;have lf:=hf.an;refine aF func108 Z ?_;refine box λb1 w1 h1=>?_;refine alloc λb2 w2 h2=>?_;have B1:aP w2 b1 31 [.string d.name,iv d.aG,iv d.cap,iv d.bH,aB A1 n1 c1,aB A2 n2 c2,aB A3 n3 c3,aB A4 n4 c4,aB A5 n5 c5,aB A6 n6 c6]:=h1.aS.ae h2.ae;refine go ?_;refine qV λg w3 hg a8=>?_;have x3:ax w2 w3:=by rw[a8];exact aj.alloc _ _ _
 have M3:dw fY w3 g (λ_=>none):=by rw[hg,a8];exact dw.new fY w2
 refine hY [.string d.name,iv d.aG,iv d.cap,iv d.bH,aB A1 n1 c1,aB A2 n2 c2,aB A3 n3 c3,aB A4 n4 c4,aB A5 n5 c5,aB A6 n6 c6,.map (some g)] Z ?_;refine alloc λb3 w4 h4=>?_;refine fg h4.aS λw5 B3 k5 z5=>?_;have e1:=h1.au;have e2:=h2.au;have e4:=h4.au;have s1:=h1.size;have s2:=h2.size;have s3:=x3.size;have sg:=M3.lt;have s4:=h4.size;have x5:=(((h1.ae.trans h2.ae).trans x3).trans h4.ae).ag k5 λb hb _ e=>Y;have B1:=(B1.ae (x3.trans h4.ae)).ah k5 Y;have B2:aP w5 b2 239 [.string ByteArray.empty,iv 0,iv 0,iv 0,aY,aY,aY,aY,aY,aY,.map none]:=(h2.aS.ae (x3.trans h4.ae)).ah k5 Y;have M5:dw fY w5 g (λ_=>none):=(M3.ah h4.ae Yt).ah k5 (by have:=M3.lt;omega);have aq:w.heap.size<=g:=Y;have av:=M5.lt;refine go ?_;refine aM (λk:Nat=>[(14,iv (k:Int))]) (λk u=>k<=n2/\(∃S,BN w u g (λr=>rK d r k) S)/\ax w u/\aP u b1 31 [.string d.name,iv d.aG,iv d.cap,iv d.bH,aB A1 n1 c1,aB A2 n2 c2,aB A3 n3 c3,aB A4 n4 c4,aB A5 n5 c5,aB A6 n6 c6]/\aP u b3 239 [.string d.name,iv d.aG,iv d.cap,iv d.bH,aB A1 n1 c1,aB A2 n2 c2,aB A3 n3 c3,aB A4 n4 c4,aB A5 n5 c5,aB A6 n6 c6,.map (some g)]/\aP u b2 239 [.string ByteArray.empty,iv 0,iv 0,iv 0,aY,aY,aY,aY,aY,aY,.map none]) (λk _=>n2-k) 0 ⟨U,Yt⟩ ⟨Y,⟨λ_=>(none,0,0),⟨_,M5,λ_=>rfl⟩,λ_=>bu.nil x5,λ_ _ _ g h=>by cases h⟩,x5,B1,B3,B2⟩ U ?_;rintro G k u ⟨hk,⟨S,P⟩,xu,B1,B3,B2⟩;refine cD (λhlt=>?_) λhge=>?_
 .have hlt:k<n2:=Y;obtain⟨b,o,cs,x,rfl,hx,-,-,hc,rfl⟩:=(hf.ae xu).au hlt;refine idx k U hlt ?_;refine go ?_;refine alloc λb5 u1 i1=>?_;have y1:=i1.au;have q1:=i1.size;refine fg i1.aS λu2 B5 k2 z2=>?_;have xu2:ax u u2:=i1.ae.ag k2 λb hb _ e=>Y;have hl:=P.an x.aZ;have P2:=P.ae xu2;obtain⟨B1,B3,B2⟩:=P9 xu2 B1 B3 B2;have B5:aP u2 b5 102 x.c:=B5;obtain⟨⟨m,O,hm⟩,ho,a7⟩:=P2;have af:=rM (d:=d) (r:=x.aZ) (k:=d.aR.length);have aa:=rM (d:=d) (r:=x.aZ) (k:=k);have ak:=BJ (d:=d) (r:=x.aZ) (k:=k);have hl:(S x.aZ).2.1<=10000:=by rw[hl];omega
  have n3:=vZ (ho x.aZ) B3 Yd;have n5:=vZ (ho x.aZ) B5 Yd;have n1:=vZ (ho x.aZ) B1 Yd;have n2:=vZ (ho x.aZ) B2 Yd;have nm:=xV (ho x.aZ) O;have hgl:=O.lt;have l1:=B1.lt;have l2:=B2.lt;have l3:=B3.lt;refine bR (oP [11,12,13] [13] [0,1,2,3,4,5,6,7,8,9,10,11,12,13]) [13] (λz=>aj (λb=>(S x.aZ).1≠aL b) u2 z) mx Z (.refl _ _) ?_;refine Zp ?_;refine Zp ?_;refine dh (kv:=fY) x.aZ (aB (S x.aZ).1 (S x.aZ).2.1 (S x.aZ).2.2) (λz hz=>⟨m,O.ah hz nm,hm _⟩) ?_;refine hY [.bool true,iv (k:Int)] Z ?_;refine lit [.agg #[.bool true,iv (k:Int)]] λhg2 u3 hq=>?_;refine bN (ax.any hq.ae) ?_;refine iI ((ho x.aZ).ag hq.ae) (hq.src (sz:=2) U) Y λA' c' u4 o4 k4 hA=>?_;have J:=(ax.any hq.ae).trans k4;refine bN J ?_;refine gv (λ_=>True) Yt ?_;have a6:=O.ah J nm;refine kV (kv:=fY) x.aZ a6 λu5 M5 k5 z5=>?_;refine go ?_;have V:=(o4.ae).ag k5 λb hb _ e=>Y;refine next (k+1) ⟨Yn,Yt⟩ ⟨Y,BN.step (f:=λr=>rK d r k) (p:=(true,k)) x.aZ ho a7 hm o4 J (hA.imp id (Or.imp id λe=>⟨u3,e,hq.ae⟩)) a6 M5 k5 V λq=>?_,V,(B1.ah J n1).ah k5 Y,(B3.ah J n3).ah k5 Y,(B2.ah J n2).ah k5 Y⟩ Y;have ef:(jh d k).aZ=x.aZ:=by rw[jJ hx]
  by_cases e:q=x.aZ
  .rw[asp e,e];exact QR ef
  .rw[aso e];exact UZ λh=>e (by rw[<-h];exact ef)
 .refine go ?_;refine aM (λk:Nat=>[(36,iv (k:Int))]) (λk u=>k<=n1/\(∃S,BN w u g (λr=>rK d r d.aR.length++tQ d r k) S)/\ax w u/\aP u b1 31 [.string d.name,iv d.aG,iv d.cap,iv d.bH,aB A1 n1 c1,aB A2 n2 c2,aB A3 n3 c3,aB A4 n4 c4,aB A5 n5 c5,aB A6 n6 c6]/\aP u b3 239 [.string d.name,iv d.aG,iv d.cap,iv d.bH,aB A1 n1 c1,aB A2 n2 c2,aB A3 n3 c3,aB A4 n4 c4,aB A5 n5 c5,aB A6 n6 c6,.map (some g)]/\aP u b2 239 [.string ByteArray.empty,iv 0,iv 0,iv 0,aY,aY,aY,aY,aY,aY,.map none]) (λk _=>n1-k) 0 ⟨U,Yt⟩ ⟨Y,⟨S,by obtain rfl:k=d.aR.length:=Y;simpa[tQ] using P⟩,xu,B1,B3,B2⟩ U ?_;rintro G k u ⟨hk,⟨S,P⟩,xu,B1,B3,B2⟩;refine cD (λhlt=>?_) λhge=>?_
  .have hlt:k<n1:=Y;obtain⟨b,o,cs,x,rfl,hx,-,-,hc,rfl⟩:=(hr.ae xu).au hlt;refine idx k U hlt ?_;refine go ?_;refine alloc λb5 u1 i1=>?_;have y1:=i1.au;have q1:=i1.size;refine fg i1.aS λu2 B5 k2 z2=>?_;have xu2:=i1.ae.ag k2 λb hb _ e=>Y;have hl:=P.an x.up;have P2:=P.ae xu2;obtain⟨B1,B3,B2⟩:=P9 xu2 B1 B3 B2;obtain⟨⟨m,O,hm⟩,ho,a7⟩:=P2;have af:=rM (d:=d) (r:=x.up) (k:=d.aR.length);have aa:=rM (d:=d) (r:=x.up) (k:=k);have ak:=BJ (d:=d) (r:=x.up) (k:=k);have hl:(S x.up).2.1<=10000:=by rw[hl];rw[asu];omega
   have n3:=vZ (ho x.up) B3 Yd;have n5:=vZ (ho x.up) B5 Yd;have n1:=vZ (ho x.up) B1 Yd;have n2:=vZ (ho x.up) B2 Yd;have nm:=xV (ho x.up) O;have hgl:=O.lt;have l1:=B1.lt;have l2:=B2.lt;have l3:=B3.lt;refine bR (oP [11,12,13] [13] [0,1,2,3,4,5,6,7,8,9,10,11,12,13]) [13] (λz=>aj (λb=>(S x.up).1≠aL b) u2 z) mx Z (.refl _ _) ?_;refine Zu ?_;refine Zu ?_;refine dh (kv:=fY) x.up (aB (S x.up).1 (S x.up).2.1 (S x.up).2.2) (λz hz=>⟨m,O.ah hz nm,hm _⟩) ?_;refine hY [.bool false,iv (k:Int)] Z ?_;refine lit [.agg #[.bool false,iv (k:Int)]] λhg2 u3 hq=>?_;refine bN (ax.any hq.ae) ?_;refine iI ((ho x.up).ag hq.ae) (hq.src (sz:=2) U) Y λA' c' u4 o4 k4 hA=>?_;have J:aj (λb=>(S x.up).1≠aL b) u2 u4:=(ax.any hq.ae).trans k4;refine bN J ?_;refine gv (λ_=>True) Yt ?_;have a6:=O.ah J nm;refine kV (kv:=fY) x.up a6 λu5 M5 k5 z5=>?_;refine go ?_;have V:ax w u5:=(o4.ae).ag k5 λb hb _ e=>Y;refine next (k+1) ⟨Yn,Yt⟩ ⟨Y,BN.step (f:=λr=>rK d r d.aR.length++tQ d r k) (p:=(false,k)) x.up ho a7 hm o4 J (hA.imp id (Or.imp id λe=>⟨u3,e,hq.ae⟩)) a6 M5 k5 V λq=>?_,V,(B1.ah J n1).ah k5 Y,(B3.ah J n3).ah k5 Y,(B2.ah J n2).ah k5 Y⟩ Y;have ef:(dB d k).up=x.up:=by rw[jm hx]
   by_cases e:q=x.up
   .rw[asp e,e];show _++_=_;rw[QS ef,as5]
   .rw[aso e];show _++_=_;rw[U0 λh=>e (by rw[<-h];exact ef)]
  .have hkn:k=d.aD.length:=Y;refine go ?_;refine fg B2 λu6 B6 k6 z6=>?_;have B6:aP u6 b2 239 [.string d.name,iv d.aG,iv d.cap,iv d.bH,aB A1 n1 c1,aB A2 n2 c2,aB A3 n3 c3,aB A4 n4 c4,aB A5 n5 c5,aB A6 n6 c6,.map (some g)]:=B6;have l2:=B2.lt;have hgl:=P.map;refine ret<|da _ (bU (bF.aS B6) U) ?_;have x6:ax w u6:=xu.ag k6 λb hb _ e=>Y;refine⟨g,U,x6,aq,?_⟩;obtain⟨⟨m,O,hm⟩,ho,-⟩:=P;refine⟨m,O.ah k6 (λe=>by obtain⟨L,q,hE,-⟩:=O;have h1:u.heap[b2]? =_:=B2;rw[<-e,hE.au] at h1;cases h1),λr=>⟨_,_,_,hm r,?_,(ho r).le⟩⟩
   have o:=(ho r).bY k6 (λb hb e=>vZ (ho r) B2 Yd (by rw[<-e];exact hb)) x6;have hl:=o.own.an;rw[Gy,hkn] at hl;rw[hkn] at o;have hp:(rK d r d.aR.length++tQ d r d.aD.length).length<=664:=by have:=HY (d:=d) (r:=r);unfold fF at this;omega
   exact jH.rd (a:=tPt) o.own H6 (by unfold fF;omega) Y λb hb=>o.new b hb
end
section
variable {D:Nat->Prop} {w:World}
theorem H7{n:Int}{l:aX}{m c:Nat}(hl:bS cO D w A m l):aK prog 125 #[iv n,aB A m c] w (λv w'=>v=iv (l.foldl min n)/\w'=w):=by
 have J:=hl.an;have hle:=hl.le;apply aF func125 Z;exact aob
theorem H8{α:Type}{f:α->Int}{l:List α}{x:α}:aV ((l++[x]).map f)=aV (l.map f)+f x:=by rw[asK];exact fD
theorem ED{ps:List Pt}{cl hs:aX}{A B C:bZ}{n c m cb k cc:Nat}(hp:bS tPt D w A n ps)(hb:bS cO D w B m cl)(hh:bS cO D w C k hs)(hn:n<=664)(hi:∀p∈ps,(p.1=true->p.2<m)/\(p.1=false->p.2<k))(h1:vY cl)(h2:vY hs):aK prog 127 #[aB A n c,aB B m cb,aB C k cc] w (λv w'=>∃A' c',v=.tuple #[aB A' n c',iv (aV (ps.map (rN cl hs)))]/\bu w w' A' n c' 3 1 ((ps.map (rN cl hs)).map λx=>iv x)):=by
 have lp:=hp.an;have lb:=hb.an;have lh:=hh.an;have ok:∀p,0<=rN cl hs p/\rN cl hs p<=1073741824:=λp=>by
  unfold rN;have q:∀{l:aX},vY l->∀i,0<=bL l i/\bL l i<=1073741824:=λ{l} h i=>XY
  split
  .exact q h1 _
  .exact q h2 _
 have a6:∀k:Nat,vY ((ps.take k).map (rN cl hs)):=λk c hc=>by obtain⟨p,-,rfl⟩:=asS.1 hc;exact ok p
 apply aF func127 Z;apply an;apply aM (λs:Nat×bZ×Nat=>[(13,iv (s.1:Int)),(6,aB s.2.1 s.1 s.2.2),(7,iv (aV ((ps.take s.1).map (rN cl hs))))]) (λs u=>s.1<=n/\bu w u s.2.1 s.1 s.2.2 3 1 (((ps.take s.1).map (rN cl hs)).map λx=>iv x)) (λs _=>n-s.1) (0,none,0) ⟨U,U,U,Yt⟩ ⟨Y,.nil (.refl _ _)⟩ U;rintro G ⟨j,E,ce⟩ u ⟨hj,own⟩;have hj:j<=n:=hj;have own:bu w u E j ce 3 1 (((ps.take j).map (rN cl hs)).map λx=>iv x):=own;refine cD (λhlt=>?_) λhge=>?_
 .have hlt:j<n:=Y;obtain⟨b,o,cs,p,rfl,O,-,-,hc,rfl⟩:=(hp.ae own.ae).au hlt;have htk:ps.take (j+1)=ps.take j++[p]:=by rw[asD,O];rfl
  have sb:=jl (a6 j);rw[asz,asF] at sb;have a8:=ok p;obtain⟨i1,i2⟩:=hi p (asq O);apply idx j U hlt;refine go ?_;refine alloc λq u1 a1=>?_;refine fg a1.aS λu2 b2 k2 z2=>?_;have b2:aP u2 q 270 (Gv p):=b2;have ea:=a1.au;have x2:ax u u2:=a1.ae.ag k2 λb hb _ e=>Y;have own:=own.ag x2;obtain⟨V,J⟩:∃V,V=rN cl hs p:=⟨_,U⟩;have aa:∀(G:Fr) (K:KK),True:=λ_ _=>Yt;obtain⟨pf,pi⟩:=p;cases pf with
  |true=>
   have i1:pi<m:=i1 U;obtain⟨b',o',cs',x,rfl,hx,-,-,a7,rfl,-⟩:=(hb.ae own.ae).au i1;have ex:x=V:=by rw[J];show x=bL cl pi;rw[cY hx]
   refine bC ?_;refine ld (.bool true) (b2.ai U) ?_;refine bC ?_;refine ld (iv (pi:Int)) (b2.ai U) ?_;refine idx pi U i1 ?_;refine go ?_;refine lit [iv x] λg u3 hq=>?_;refine iI (own.ag hq.ae) (hq.src (sz:=1) U) Y λA' c' u4 o4 _ _=>?_;refine eD (by dsimp only;omega) ?_;refine go ?_;refine next (j+1,A',c') ⟨Yn,U,by rw[htk,H8,<-J,<-ex];rfl,Yt⟩ ⟨by show j+1<=n;omega,?_⟩ (by show n-(j+1)<n-j;omega);show bu w u4 A' (j+1) c' 3 1 (((ps.take (j+1)).map (rN cl hs)).map λx=>iv x);rw[htk,asK,asK];have e:([(true,pi)]:List Pt).map (rN cl hs)=[x]:=by rw[ex,J];rfl
   rw[e];exact o4
  |false=>
   have i2:pi<k:=i2 U;obtain⟨b',o',cs',x,rfl,hx,-,-,a7,rfl,-⟩:=(hh.ae own.ae).au i2;have ex:x=V:=by rw[J];show x=bL hs pi;rw[cY hx]
   refine bC ?_;refine ld (.bool false) (b2.ai U) ?_;refine bC ?_;refine ld (iv (pi:Int)) (b2.ai U) ?_;refine idx pi U i2 ?_;refine go ?_;refine lit [iv x] λg u3 hq=>?_;refine iI (own.ag hq.ae) (hq.src (sz:=1) U) Y λA' c' u4 o4 _ _=>?_;refine eD (by dsimp only;omega) ?_;refine go ?_;refine next (j+1,A',c') ⟨Yn,U,by rw[htk,H8,<-J,<-ex];rfl,Yt⟩ ⟨by show j+1<=n;omega,?_⟩ (by show n-(j+1)<n-j;omega);show bu w u4 A' (j+1) c' 3 1 (((ps.take (j+1)).map (rN cl hs)).map λx=>iv x);rw[htk,asK,asK];have e:([(false,pi)]:List Pt).map (rN cl hs)=[x]:=by rw[ex,J];rfl
   rw[e];exact o4
 .obtain rfl:j=n:=Y;have e:ps.take j=ps:=asx Y;rw[e] at own;exact tK (aB E j ce) (iv (aV ((ps.take j).map (rN cl hs)))) U rfl ⟨E,ce,by rw[e],own⟩
theorem Oa:aA 206 #[iv x] w (.bool (!JT x)):=by
 apply aF func206 Z;have e:JT x=decide (0<=x/\x<=1073741824):=U;refine cD (λg=>?_) λg=>?_
 .exact aQ _ U ⟨by rw[e,asG Y];rfl,.refl _ _⟩
 refine cD (λg2=>?_) λg2=>?_
 .exact aQ _ U ⟨by rw[e,asG Y];rfl,.refl _ _⟩
 .exact aQ _ U ⟨by rw[e,asE Y];rfl,.refl _ _⟩
theorem abv{xs:aX}{c:Nat}(h:bS cO D w A n xs):aK prog 231 #[aB A n c,.func (.func 206) #[] #[]] w (λv w'=>(∃i:Int,v=iv i/\(0<=i↔xs.all JT=false))/\ax w w'):=by
 refine aF func231 Z<|an<|aM (λk:Nat=>[(8,iv (k:Int))]) (λk w'=>k<=n/\ax w w'/\xs.all JT=(xs.drop k).all JT) (λk _=>n-k) 0 ⟨U,Yt⟩ ⟨Y,.refl _ _,U⟩ U ?_;rintro G k w' ⟨hk,xw,he⟩;refine cD (λhlt=>?_) λhge=>?_
 .obtain⟨b,o,cs,x,rfl,hx,J,-,hc,rfl,-⟩:=(h.ae xw).au (show k<n from Y);rw[J,atv] at he;refine go<|dt (Oa (x:=x)) (λw2 g x2=>?_) λw2 g x2=>?_
  .exact TN
  .exact aoN
 .exact LO
theorem U6{xs:aX}{c:Nat}(h:bS cO D w A n xs):aA 155 #[aB A n c,.func (.func 206) #[] #[]] w (.bool (!xs.all JT)):=by
 refine aF func155 Z<|aJ (abv h) ?_;rintro _ z ⟨⟨i,rfl,hi⟩,u⟩;refine cD (λg=>?_) λg=>?_
 .exact aQ _ U ⟨by rw[hi.1 g];rfl,u⟩
 .exact aQ _ U ⟨by rw[show xs.all JT=true from by cases J:xs.all JT with|true=>rfl|false=>exact absurd (hi.2 J) g];rfl,u⟩
theorem H9{z:aW}{c:Nat}(hd:iG D w z d)(W:bS cO D w A n cl):aA 107 #[.agg z.toArray,aB A n c] w (iv (iJ d cl)):=by
 have J:=hd;obtain⟨A1,n1,c1,A2,n2,c2,A3,n3,c3,A4,n4,c4,A5,n5,c5,A6,n6,c6,rfl,hr,hf,-⟩:=hd.ex;have lf:=hf.an;have ll:=W.an;refine aF func107 Z<|box λb1 w1 h1=>?_;have X:=h1.aS;refine go<|bW (ko (J.ae h1.ae)) λw2 V=>?_;have X:=X.ae V;have u:=h1.ae.trans V;refine cN (λg=>?_) λg=>?_
 .exact aQ (iv (cH d)) U ⟨by unfold iJ;rw[asp g],u⟩
 have O:iJ d cl=if oC d cl then 0 else 410:=by unfold iJ;rw[aso λh=>h g]
 refine go<|cN (λg1=>?_) λg1=>?_
 .exact aQ (iv 410) U ⟨by rw[O,aso];unfold oC;rw[asG Y];simp,u⟩
 refine dt (U6 (W.ae u)) (λw3 g2 M=>?_) λw3 g2 M=>?_
 .simp only[atj] at g2;exact aQ (iv 410) U ⟨by rw[O,aso];unfold oC;rw[g2];simp,u.trans M⟩
 .simp only[atb] at g2;exact aQ (iv 0) U ⟨by rw[O,asp];unfold oC;rw[g2,asE Y];rfl,u.trans M⟩
theorem BP{lv:Bool}:aK prog 126 #[.agg #[.string d.name,iv d.aG,iv d.cap,iv d.bH,aB A1 n1 c1,aB A2 n2 c2,aB A3 n3 c3,aB A4 n4 c4,aB A5 n5 c5,aB A6 n6 c6,.map (some g)],.bool lv] w (λv w'=>∃b1 b2,v=.func (.func 209) #[] #[ptr b1,ptr b2]/\ax w w'/\aP w' b1 239 [.string d.name,iv d.aG,iv d.cap,iv d.bH,aB A1 n1 c1,aB A2 n2 c2,aB A3 n3 c3,aB A4 n4 c4,aB A5 n5 c5,aB A6 n6 c6,.map (some g)]/\aP w' b2 4 [.bool lv]/\w.heap.size<=b1/\b1<b2):=by
 refine aF func126 Z<|box λb1 w1 h1=>box λb2 w2 h2=>?_;exact W3
def Ky(n:Nat)(lv:Bool)(k:Nat):Nat:=if lv then n-1-k else k
theorem yS{d:aU}{A1 A2 A3 A4 A5 A6:bZ}{n1 c1 n2 c2 n3 c3 n4 c4 n5 c5 n6 c6 g b1 b2 l:Nat}{lv:Bool}{D D':Nat->Prop}{Q:World->Prop}{w w0:World}(J:Nat->World->Prop)(hD1:D b1)(V:D b2)(hDD:∀b,D' b->D b)(h1:aP w b1 239 [.string d.name,iv d.aG,iv d.cap,iv d.bH,aB A1 n1 c1,aB A2 n2 c2,aB A3 n3 c3,aB A4 n4 c4,aB A5 n5 c5,aB A6 n6 c6,.map (some g)])(h2:aP w b2 4 [.bool lv])(ht:wc D' w g d)(hn:n1=d.aD.length/\n1<=64)(O:w0=w)(hstep:∀(k:Nat) A n c u,k<n1->J k u->aj D w u->bS tPt D' u A n (fF d (Ky n1 lv k:Nat))->n<=c->iQ prog l [iv (Ky n1 lv k:Int),aB A n c].toArray (λv u'=>(v=.bool true/\J (k+1) u'/\aj D w0 u')\/(v=.bool false/\Q u')) u)(h0:J 0 w):aK prog 209 #[.func (.yield l) #[] #[],ptr b1,ptr b2] w (λ_ w'=>(J n1 w'/\aj D w0 w')\/Q w'):=by
 subst O;apply aF func209 Z;refine go ?_;refine aM (λk:Nat=>[(9,iv (k:Int))]) (λk u=>k<=n1/\J k u/\aj D w0 u) (λk _=>n1-k) 0 ⟨U,Yt⟩ ⟨Y,h0,.refl _ _⟩ U ?_;rintro G k u ⟨hk,hj,ku⟩;have B1:=h1.ah ku hD1;have B2:=h2.ah ku V;have T:=ht.ah ku λb _ h=>hDD b h;refine cD (λhlt=>?_) λhge=>?_
 .have hlt:k<n1:=Y;obtain⟨-,m,Mm,hm⟩:=T;obtain⟨A,n,c,e,hs,hc⟩:=hm ((Ky n1 lv k:Nat):Int);have st:=hstep k A n c u hlt hj ku hs hc;refine go ?_;cases lv with
  |true=>
   refine go ?_;have ei:((n1:Int)-1-(k:Int))=((Ky n1 true k:Nat):Int):=by unfold Ky;rw[asp U];omega
   rw[ei];refine go ?_;refine dh (kv:=fY) ((Ky n1 true k:Nat):Int) (aB A n c) (λz hz=>⟨m,by rw[hz];exact Mm,e⟩) ?_;exact aoH
  |false=>
   have ei:((k:Nat):Int)=((Ky n1 false k:Nat):Int):=by unfold Ky;rw[aso (by simp)]
   rw[show Ky n1 false k=k from by unfold Ky;rw[aso (by simp)]] at st e;refine go ?_;refine dh (kv:=fY) ((k:Nat):Int) (aB A n c) (λz hz=>⟨m,by rw[hz];exact Mm,e⟩) ?_;exact aoH
 .obtain rfl:k=n1:=Y;exact mD (.inl ⟨hj,ku⟩)
end
section
variable {D:Nat->Prop} {w:World}
def U7(d:aU):Bool:=decide (d.aD.length<=100)&&(decide (d.aR.length<=700)&&(decide (d.mO.length<=100)&&(decide (d.bn.length<=300)&&(decide (d.ed.length<=300)&&decide (d.Xu.length<=100)))))
theorem QY{cs:aW}(hd:iG D w cs d):aA 20 #[.agg cs.toArray] w (.bool (U7 d)):=by
 obtain⟨A1,n1,c1,A2,n2,c2,A3,X,c3,A4,W,c4,A5,V,c5,A6,n6,c6,rfl,hr,hf,J,z,A,M⟩:=hd.ex;have l1:=hr.an;have l2:=hf.an;have l3:=J.an;have l4:=z.an;have l5:=A.an;have l6:=M.an;have e1:=hr.le;have e2:=hf.le;have e3:=J.le;have e4:=z.le;have e5:=A.le;refine aF func20 Z<|box λg w1 h1=>?_;have bg:=h1.aS;have O:=h1.ae;have u:U7 d=true↔n1<=100/\n2<=700/\X<=100/\W<=300/\V<=300/\n6<=100:=by unfold U7;rw[l1,l2,l3,l4,l5,l6];simp
 have bad:¬(n1<=100/\n2<=700/\X<=100/\W<=300/\V<=300/\n6<=100)->Value.bool false=.bool (U7 d)/\ax w w1:=λh=>⟨by rw[atl.2 λe=>h (u.1 e)],O⟩;refine go<|HF (λg1=>?_) λg1=>?_
 .exact aQ _ U (bad Y)
 refine go<|HF (λg2=>?_) λg2=>?_
 .exact aQ _ U (bad Y)
 refine go<|HF (λg3=>?_) λg3=>?_
 .exact aQ _ U (bad Y)
 refine go<|HF (λg4=>?_) λg4=>?_
 .exact aQ _ U (bad Y)
 refine go<|HF (λg5=>?_) λg5=>?_
 .exact aQ _ U (bad Y)
 refine go<|HF (λg6=>?_) λg6=>?_
 .exact aQ _ U (bad Y)
 exact aQ (.bool true) U ⟨by rw[u.2 Y],O⟩
end
def rP(r:Reach)(w:Int):Int×Bool:=if uH r w≠0 then(0,false) else if rG r w>1073741824 then(0,false) else(rG r w,true)
section
variable {D:Nat->Prop} {w:World}
theorem QZ{p:Int->Bool}[he:Enters prog fn](hn:n<=4611686018427387904)(hm:∀v v':Int,0<=v->v<=v'->v'<=n->p v=true->p v'=true)(hc:∀(v:Int) (z:World),0<=v->v<n->ax w z->aK prog fn ([iv v]++cap.toList).toArray z λu M=>u=.bool (p v)/\ax z M):aK prog 334 #[iv (n:Int),.func (.func fn) #[] cap] w (λv z=>∃k:Int,v=iv k/\vQ p 0 n k/\ax w z):=by
 apply aF func334 Z;apply HB (λ(lo hi:Int)=>[(5,iv lo),(6,iv hi)]) (λlo hi z=>tP p 0 n lo hi/\ax w z) (λlo hi _=>(hi-lo).toNat) 0 (n:Int) ⟨U,U,Yt⟩ ⟨tP.bH Y,.refl _ _⟩ U;rintro G lo hi z ⟨h,A⟩;have h1:=h.Qw;have h2:=h.Qx;have h3:=h.NT;refine cD (λX=>?_) λa1=>?_
 .apply eD Y;obtain⟨s,hs⟩:∃s:Nat,lo+hi=(s:Int):=⟨(lo+hi).toNat,Y⟩;apply qP (n:=s) Y Y;apply ajT Yd;apply conv (k:=.i64);have e:IntKind.i64.wrap (((s:Int)).fdiv (2 ^ (min (1:Int).toNat IntKind.u64.bits)))=(lo+hi)/2:=by rw[show(2:Int) ^ (min (1:Int).toNat IntKind.u64.bits)=2 from Yd,avs _ Y,rA Y,hs]
  rw[e];obtain⟨m,V⟩:∃m,m=(lo+hi)/2:=⟨_,U⟩;rw[<-V];refine dt (hc m z Y Y A) (λW O J=>?_) λW O J=>?_
  .exact rr lo m ⟨U,U,Yt⟩ ⟨h.left Y Y O,A.trans J⟩ Y
  .refine go ?_;exact rr (m+1) hi ⟨U,U,Yt⟩ ⟨h.right hm Y Y O,A.trans J⟩ Y
 .exact aQ _ U ⟨lo,U,h.done Y,A⟩
def amQ(fn:FuncId)(cap:Array Value)(w:World)(g:Int->Int):Prop:=∀(v:Int) (w':World),0<=v->v<=1073741824->ax w w'->aK prog fn ([iv v]++cap.toList).toArray w' λu w''=>u=iv (g v)/\ax w' w''
theorem Ob[he:Enters prog fn]{g:Int->Int}{M J:Nat}{v:Int}(W:amQ fn cap w0 g)(V:ax w0 w)(A:0<=v/\v<=1073741824)(h1:aP w M t [.func (.func fn) #[] cap])(Y:aP w J 3 [iv x]):aA 335 #[iv v,ptr M,ptr J] w (.bool (decide (g v>x))):=by
 refine aF func335 Z<|P8 (λ_=>True) [0,1,3,2,4,5] [2] mx Z<|go<|bW (W v w A.1 A.2 V) λX z=>?_;refine amB z<|cD (λq=>?_) λq=>?_
 .exact aQ (.bool true) U ⟨by rw[asE q],z⟩
 .exact aQ (.bool false) U ⟨by rw[asG q],z⟩
theorem Q0[he:Enters prog fn]{g:Int->Int}(X:amQ fn cap w g)(hm:∀v v',0<=v->v<=v'->g v<=g v'):aK prog 255 #[iv x,.func (.func fn) #[] cap] w (λu O=>∃k:Int,u=iv k/\vQ (λv=>decide (g v>x)) 0 1073741825 k/\ax w O):=by
 refine aF func255 Z<|box λbw w1 h1=>box λba w2 J=>?_;have M:=h1.ae.trans J.ae;refine aJ (QZ (fn:=335) (cap:=#[ptr ba,ptr bw]) (n:=1073741825) (p:=λv=>decide (g v>x)) Y (λv v' h0 h1 _ h=>Yg) λv O A W z=>Ob X (M.trans z) ⟨A,Y⟩ (J.aS.ae z) ((h1.aS.ae J.ae).ae z)) ?_;rintro _ w3 ⟨k,rfl,hk,V⟩;exact aQ _ U ⟨k,U,hk,M.trans V⟩
theorem Q7{r:Reach}{v:Int}(z:eB r=true)(A:0<=v/\v<=1073741824)(V:aP w b t r.c):aA 256 #[iv v,ptr b] w (iv (nC r v)):=by
 refine aF func256 Z<|go<|bW (Md z A) λO J=>?_;have h:=FW z A;refine ZK (iv (gM r v).hi) U ?_;refine go ?_;exact aQ _ U ⟨U,J⟩
theorem GA{r:Reach}:aA 177 #[r.v,iv x] w (.tuple #[iv (rP r x).1,.bool (rP r x).2,iv (uH r x)]):=by
 refine aF func177 Z<|box λb w1 h1=>fj _ (.aS h1.aS) U<|bW HJ λw2 A=>?_;refine cN (λhe=>?_) λhe=>?_
 .exact xN (iv 0) (.bool false) (iv (uH r x)) U rfl rfl ⟨by unfold rP;rw[asp he],h1.ae.trans A⟩
 obtain⟨z,hx⟩:=sV.1 he;refine go<|aJ (Q0 (fn:=256) (cap:=#[ptr b]) (g:=nC r) (x:=x-1) (λv O J X V=>Q7 z ⟨J,X⟩ ((h1.aS.ae A).ae V)) λv v' J h=>xS z J h) ?_;rintro _ w3 ⟨k,rfl,hk,W⟩;have e:(λv=>decide (nC r v>x-1))=λv=>decide (x<=nC r v):=funext λv=>auD.2 ⟨λh=>Y,λh=>Y⟩;rw[e] at hk;obtain rfl:=hk.uniq (mZ z);have M:=(h1.ae.trans A).trans W;refine cD (λq=>?_) λq=>?_
 .exact xN (iv 0) (.bool false) (iv 0) U rfl rfl ⟨by unfold rP;rw[aso (by simp[he]),asp q,he],M⟩
 .exact xN (iv (rG r x)) (.bool true) (iv 0) U rfl rfl ⟨by unfold rP;rw[aso (by simp[he]),aso q,he],M⟩
end
theorem yT{d:aU}{cl:aX}{k:Nat}(h:dG d cl k=none):∀m,k<=m->dG d cl m=none
 |0,hm=>by obtain rfl:k=0:=Y;exact h
 |m+1,hm=>by
  by_cases e:k=m+1
  .rw[<-e];exact h
  .show(match dG d cl m with|none=>none|some hs=>_)=none
   rw[yT h m Y]
theorem yU{d:aU}{cl:aX}:∀(k:Nat) {hs:aX},k<=d.aD.length->dG d cl k=some hs->hs.length=d.aD.length/\∀i,i<d.aD.length-k->bL hs i=0
 |0,hs,_,h=>by
  injection h with h;subst h
  refine⟨atz ..,λi hi=>?_⟩
  unfold bL
  rw[asC,at7]
  split<;>rfl
 |k+1,hs,hk,h=>by
  unfold dG at h
  cases h1:dG d cl k with
  |none=>rw[h1] at h;cases h
  |some z=>
   obtain⟨M,J⟩:=yU k Y h1
   rw[h1] at h
   dsimp only at h
   cases A:dD (dB d (d.aD.length-1-k)) (aV (dg d cl z (d.aD.length-1-k))) with
   |none=>rw[A] at h;cases h
   |some u=>
    rw[A] at h
    injection h with h;subst h
    refine⟨by rw[asU];exact M,λi hi=>?_⟩
    rw[eR Y,aso Y]
    exact J i Y
theorem Ia{hs:aX}{k:Nat}{r:Reach}(h:dG d cl k=some hs)(hi:i=d.aD.length-1-k)(u:dB d i=r):dG d cl (k+1)=(dD r (aV (dg d cl hs i))).map λv=>hs.set i v:=by
 subst hi u;rw[dG,h];dsimp only;cases dD _ _<;>rfl
abbrev cJ(l:aX):aW:=l.map λx=>.int .i64 x
theorem Mr{l:aX}(h:vY l):∀x∈l,jt x:=λx u=>by have:=h x u;unfold jt;omega
theorem we{l:aX}(h:aP w b t (cJ l))(u:n=l.length)(z:vY l)(hle:n<=140737488355328)(A:D b):bS cO D w (aL b) n l:=bS.jw u hle A (bF.aS h) (fX (Mr z))
theorem ij{l:aX}:(cJ l).set i (iv x)=cJ (l.set i x):=by unfold cJ;rw[avX]
section
variable {D:Nat->Prop} {w:World}
set_option maxRecDepth 8000 in
theorem Ib{c:Nat}(hv:zm d)(hr:bS lH D w A1 n1 d.aD)(ht:wc D w g d)(hl:bS cO D w A n cl)(hk:vY cl)(hn:n=d.aR.length):aK prog 109 #[.agg #[.string d.name,iv d.aG,iv d.cap,iv d.bH,aB A1 n1 c1,aB A2 n2 c2,aB A3 n3 c3,aB A4 n4 c4,aB A5 n5 c5,aB A6 n6 c6,.map (some g)],aB A n c] w (λv w'=>ax w w'/\((dT d cl=none/\v=.tuple #[aY,.bool false])\/∃hs V,dT d cl=some hs/\v=.tuple #[aB (aL V) n1 n1,.bool true]/\w.heap.size<=V/\aP w' V 3 (cJ hs))):=by
 have lr:=hr.an;have cS:=hv.n;refine aF func109 Z ?_;refine box λb2 w1 h1=>?_;refine box λb3 w2 h2=>?_;refine alloc λb4 w3 h3=>?_;refine alloc λb5 w4 h4=>?_;have e1:=h1.au;have e2:=h2.au;have e3:=h3.au;have e4:=h4.au;have s1:=h1.size;have s2:=h2.size;have s3:=h3.size;have s4:=h4.size;have x4:=((h1.ae.trans h2.ae).trans h3.ae).trans h4.ae;have B2:=h1.aS.ae ((h2.ae.trans h3.ae).trans h4.ae);have B3:=h2.aS.ae (h3.ae.trans h4.ae);have B4:=h3.aS.ae h4.ae;have B5:=h4.aS;refine go ?_;refine i7 (sz:=1) (zv:=iv 0) n1 U rfl Y Y U Yd λV w5 h5=>?_;have e5:=h5.au;have s5:=h5.size;refine st1 (B4.ae h5.ae) U λw6 B4 k6=>?_;have s6:=k6.size;have Bh:aP w6 V 3 (cJ (List.replicate n1 0)):=by
  have q:=h5.aS.ah k6 Y;have e:cJ (List.replicate n1 0)=(List.replicate n1 (cz (iv 0))).flatten:=by unfold cJ;rw[awe];show List.replicate n1 (iv 0)=(List.replicate n1 [iv 0]).flatten;rw[avL]
  rw[e];exact q
 have B2:=(B2.ae h5.ae).ah k6 Y;have B3:=(B3.ae h5.ae).ah k6 Y;have B5:=(B5.ae h5.ae).ah k6 Y;have x6:=(x4.trans h5.ae).ag k6 λb X _ e=>Y;refine go<|aJ (BP (d:=d) (lv:=true)) ?_;rintro _ w7 ⟨b6,b7,rfl,x7,C6,C7,dk,cf⟩;have s7:=x7.size;have cw:=C7.lt;obtain⟨B2,B3,B4,B5,Bh⟩:=Pz x7 B2 B3 B4 B5 Bh;have cI:=B2.lt;refine range (gf:=209) (lb:=#[ptr b6,ptr b7]) U λfn tmps w8 R bk ca bA x8 z8 bm bT=>?_;show aK _ _ #[.func (.yield (w7.heap.size+1)) #[] #[],ptr b6,ptr b7] w8 _;have a8:=(x6.trans x7).trans x8;obtain⟨B2,B3,B4,B5,Bh⟩:=Pz x8 B2 B3 B4 B5 Bh;obtain⟨C6,C7⟩:=zQ x8 C6 C7;have cg:=x4.size;refine(yS (Q:=λu=>∃r,dc u (w7.heap.size+1) r/\r.state≠.busy/\r.pending=some .ret/\dT d cl=none/\aP u b4 37 [aY]/\aP u b5 4 [.bool false]/\aj (λb=>b≠V/\b≠w7.heap.size+1/\b≠b4/\b≠b5) w8 u) (D:=λb=>b≠V/\b≠w7.heap.size+1) (D':=λb=>b<w.heap.size) (λk u=>∃hs,dG d cl k=some hs/\aP u V 3 (cJ hs)/\dc u (w7.heap.size+1) R) ⟨Y,Y⟩ ⟨Y,Y⟩ (λb X=>⟨Y,Y⟩) C6 C7 ((show wc (λb=>b<w.heap.size) w g d from⟨ht.ex.elim λm hm=>hm.1.lt,ht.ex.imp λm hm=>⟨hm.1,λr=>by obtain⟨A,n,c,e,hs,hc⟩:=hm.2 r;exact⟨A,n,c,e,hs.ar Yd λb X _=>X,hc⟩⟩⟩).ae a8) ⟨Y,Y⟩ U ?_ ⟨_,U,by rw[lr];exact Bh,bT⟩).mono ?_
 .rintro k P np cp u cT ⟨hs,W,aa,lu⟩ ku sp dd;obtain⟨lhs,ak,-⟩:=tc hv k Y W;obtain⟨-,bp⟩:=yU k Y W;have hi:Ky n1 true k=d.aD.length-1-k:=by unfold Ky;rw[asp U,lr]
  obtain⟨i,bg⟩:∃i,i=Ky n1 true k:=⟨_,U⟩;rw[<-bg] at sp|-;rw[<-bg] at hi;have be:i<d.aD.length:=Y;obtain⟨r,av⟩:=gx d.aD i be;have ba:=jm av;obtain⟨af,bt,br⟩:=hv.rO be;rw[ba] at af bt br;have step:=Ia W hi ba;have none_:dD r (aV (dg d cl hs i))=none->dT d cl=none:=λh=>yT (k:=k+1) (by rw[step,h];rfl) _ Y;obtain⟨rf,a6⟩:∃t,t=aV (dg d cl hs i):=⟨_,U⟩;have QW:=sZ (d:=d) hk ak i;have tb:=jl QW;have bx:=hv.an (cl:=cl) (hs:=hs) (r:=i);have ck:0<=rf/\rf<=712964571136:=by rw[a6];refine⟨tb.1,auJ tb.2 ?_⟩;have:((dg d cl hs i).length:Int)<=664:=Y;omega
  rw[<-a6] at step none_;subst bk;have ll:=lu.lt;refine dQ (args:=[iv (i:Int),aB P np cp]) lu U rfl ca bA<|tN lu λu1 k1 z1 l1=>?_;have J:aj (λb=>b≠V/\b≠w7.heap.size+1) w8 u1:=ku.ag k1 λb _ h=>h.2;have q2:=B2.ah J ⟨Y,Y⟩;have q3:=B3.ah J ⟨Y,Y⟩;have q4:=B4.ah J ⟨Y,Y⟩;have q5:=B5.ah J ⟨Y,Y⟩;have ao:aj (λb=>b<w.heap.size) w u1:=(ax.any a8).ag J λb X h=>⟨Y,Y⟩;have cb:bS cO (λb=>b<w.heap.size) u1 A n cl:=(hl.ar (D':=λb=>b<w.heap.size) Yd λb X _=>X).ah ao λb _ h=>h;have bq:bS lH (λb=>b<w.heap.size) u1 A1 n1 d.aD:=(hr.ar (D':=λb=>b<w.heap.size) Yd λb X _=>X).ah ao λb _ h=>h;have ab:=aa.ah k1 (by have:=aa.lt;omega);have b1:=sp.ah k1 λb X h=>Y;have bw:=b1.an;have bE:bS cO (λb=>b=V) u1 (aL V) n1 hs:=we ab Y ak Y U;refine go<|aJ (ED (D:=λ_=>True) (b1.ar Yd λ_ _ _=>Yt) (cb.ar Yd λ_ _ _=>Yt) (bE.ar Yd λ_ _ _=>Yt) (by rw[<-bw,<-jy (cl:=cl) (hs:=hs)];exact bx) (λp hp=>?_) hk ak) ?_
  .rcases eU.1 hp with h|h
   .exact⟨λ_=>Y,λe=>(by rw[h.1] at e;cases e)⟩
   .exact⟨λe=>(by rw[h.1] at e;cases e),λ_=>Y⟩
  rintro _ u2 ⟨A',c',rfl,o2⟩;have M:=o2.ae;have eT:aV ((fF d (i:Int)).map (rN cl hs))=rf:=a6.symm;rw[eT];have aq:=J.ag M λb _ h=>Yt;have l2:=l1.ah M Yt;have q2:=q2.ae M;have q4:=q4.ae M;have q5:=q5.ae M;have b0:=ab.ae M;have b8:=bq.ae M;have cK:=ao.ag M λb X _=>Yt;have cL:aj (λb=>b≠V/\b≠w7.heap.size+1) u u2:=(k1.cU λb _ h=>h.2).ag M λb _ h=>Yt;refine cD (λg0=>?_) λg0=>?_
  .refine eQ _ l2 λu3 k3 l3=>.inl ⟨U,⟨hs,?_,b0.ah k3 (by have:=b0.lt;omega),l3⟩,aq.ag k3 λb _ h=>h.2⟩;rw[step];unfold dD;rw[asp g0];show some (hs.set i 0)=some hs;congr 1;refine at8 (by rw[asU]) λj p1 p2=>?_;rw[List.getElem_set];split
   .rename_i e;subst e;have:=bp i Y;rw[cY (asw p2)] at this;exact this.symm
   .rfl
  refine cD (λg1=>?_) λg1=>?_
  .have a7:=none_ (by unfold dD;rw[aso g0,asp Y]);refine st1 q4 U λu3 p4 k3=>?_;refine st1 (q5.ah k3 Y) U λu4 p5 O=>?_;refine vM _ ((l2.ah k3 Y).ah O Y) λu5 k5 l5=>?_;refine .inr ⟨U,_,l5,by simp,U,a7,(p4.ah O Y).ah k5 Y,p5.ah k5 Y,?_⟩;exact(((aq.cU λb _ h=>⟨h.1,h.2.1⟩).ag k3 λb _ h=>h.2.2.1).ag O λb _ h=>h.2.2.2).ag k5 λb _ h=>h.2.1
  obtain⟨bb,oo,cs,y,rfl,hy,-,-,hc,rfl⟩:=b8.au (k:=i) Y;obtain rfl:r=y:=by rw[av] at hy;injection hy
  refine go ?_;refine bW (GA (r:=r) (x:=rf)) λu3 x3=>?_;have er:uH r rf=0:=sV.2 ⟨af,Y,Y⟩;have en:rP r rf=if rG r rf>1073741824 then(0,false) else(rG r rf,true):=by unfold rP;rw[aso (by simp[er])]
  have a1:aj (λb=>b≠V/\b≠w7.heap.size+1) w8 u3:=aq.ag x3 λb _ h=>Yt;have l3:=l2.ah x3 Yt;have q2:=q2.ae x3;have q4:=q4.ae x3;have q5:=q5.ae x3;have bo:=b0.ae x3;have c7:=b8.ae x3;by_cases g2:rG r rf>1073741824
  .rw[en,asp g2];have a7:=none_ (by unfold dD;rw[aso g0,aso Y,asp g2]);refine st1 q4 U λu4 p4 O=>?_;refine st1 (q5.ah O Y) U λu5 p5 k5=>?_;refine vM _ ((l3.ah O Y).ah k5 Y) λu6 k6 l6=>?_;refine .inr ⟨U,_,l6,by simp,U,a7,(p4.ah k5 Y).ah k6 Y,p5.ah k6 Y,?_⟩;exact(((a1.cU λb _ h=>⟨h.1,h.2.1⟩).ag O λb _ h=>h.2.2.1).ag k5 λb _ h=>h.2.2.2).ag k6 λb _ h=>h.2.1
  rw[en,aso g2];have hf:=mZ (w:=rf) af;have db:=hf.le;refine bR (oP [12] [12] [0,1,2,3,4,5,6,7,8,9,10,11,12]) [12] (λz=>z=u3) mx Z U ?_;obtain⟨ds,cq,dp,y',ay,b9,-,-,df,rfl⟩:=c7.au (k:=i) Y;obtain rfl:r=y':=by rw[av] at b9;injection b9
  injection ay with ay;injection ay with c9 c8;subst c9;subst c8;refine go ?_;refine gv (λ_=>True) Yt ?_;refine st (v:=iv (max (rG r rf) r.dM)) bo (by simp;omega) U λu4 cd O z4=>?_;refine go ?_;refine eQ _ (l3.ah O Y) λu5 k5 l5=>?_;refine .inl ⟨U,⟨hs.set i (max (rG r rf) r.dM),?_,?_,l5⟩,?_⟩
  .rw[step];unfold dD;rw[aso g0,aso Y,aso g2];rfl
  .rw[<-ij];have:=cd.ah k5 (by have:=bo.lt;omega);simpa using this
  .exact(a1.ag O λb _ h=>h.1).ag k5 λb _ h=>h.2
 .rintro _ u (⟨⟨hs,W,aa,lu⟩,ku⟩|⟨r,lu,bI,bG,a7,p4,p5,ku⟩)
  .subst bk;have W:dT d cl=some hs:=by unfold dT;rw[lr];exact W
   refine dL _ lu (by simp) λu1 k1=>?_;have ll:=lu.lt;have J:aj (λb=>b≠V/\b≠w7.heap.size+1) w8 u1:=ku.ag k1 λb _ h=>h.2;have q4:=B4.ah J ⟨Y,Y⟩;have q5:=B5.ah J ⟨Y,Y⟩;have ab:=aa.ah k1 Yg;refine go<|st1 q4 U λu2 p4 k2=>st1 (q5.ah k2 Y) U λu3 p5 k3=>?_;have a1:aj (λb=>b≠V/\b≠w7.heap.size+1/\b≠b4/\b≠b5) w8 u3:=((J.cU λb _ h=>⟨h.1,h.2.1⟩).ag k2 λb _ h=>h.2.2.1).ag k3 λb _ h=>h.2.2.2;have aE:=(a1.aS _ Y ⟨Y,Y,Y,Y⟩).trans bm;refine oN aE ?_;have O:=aj.putObj u3 w7.heap.size (.deferred none);refine da _ (bj (((p4.ah k3 Y).ah O Y).ai U))<|da _ (bj ((p5.ah O Y).ai U))<|⟨(a8.ag a1 λb X _=>⟨Y,Y,Y,Y⟩).ag O λb X _=>Y,.inr ⟨hs,V,W,U,Y,((ab.ah k2 Y).ah k3 Y).ah O Y⟩⟩
  .refine dL r lu bI λu1 k1=>?_;rw[bG];have ll:=lu.lt;have J:=ku.ag k1 λb _ h=>h.2.1;have aE:=(J.aS _ Y ⟨Y,Y,Y,Y⟩).trans bm;refine oN aE ?_;have O:=aj.putObj u1 w7.heap.size (.deferred none);have ct:=p4.lt;have cr:=p5.lt;refine da _ (bj (((p4.ah k1 Y).ah O Y).ai U))<|da _ (bj (((p5.ah k1 Y).ah O Y).ai U))<|⟨(a8.ag J λb X _=>⟨Y,Y,Y,Y⟩).ag O λb X _=>Y,.inl ⟨a7,U⟩⟩
end
instance aqy:F4 prog 270:=⟨by kernel_rfl⟩
def abw(w w':World)(d:aU)(cl:aX)(v:Value):Prop:=(iJ d cl≠0/\v=.tuple #[.slice none 0 0,.bool false,iv (iJ d cl)])\/(iJ d cl=0/\dT d cl=none/\v=.tuple #[.slice none 0 0,.bool false,iv 0])\/(iJ d cl=0/\∃hs bh,dT d cl=some hs/\v=.tuple #[.slice (some (ad bh 0)) d.aD.length d.aD.length,.bool true,iv 0]/\w.heap.size<=bh/\aP w' bh 3 (cJ hs))
def iM(d:aU)(cl:aX):Int:=if iJ d cl≠0 then iJ d cl else if dT d cl=none then 410 else 0
theorem qp{d:aU}{cl:aX}:iM d cl=0↔iJ d cl=0/\∃hs,dT d cl=some hs:=by
 unfold iM;by_cases h:iJ d cl=0
 .rw[aso λq=>q h];cases u:dT d cl with
  |none=>simp[h]
  |some hs=>simp[h]
 .rw[asp h];simp[h]
def rQ(d:aU)(i:Int):Int:=if cH d≠0 then cH d else if 0<=i/\i<d.aR.length then 0 else 1
section
variable {D:Nat->Prop} {w:World}
theorem Ic{z:aW}{c:Nat}(hd:iG D w z d)(X:bS cO D w A n cl):aK prog 38 #[.agg z.toArray,aB A n c] w (λv w'=>ax w w'/\abw w w' d cl v):=by
 have a1:=hd;obtain⟨A1,n1,c1,A2,n2,c2,A3,n3,c3,A4,n4,c4,A5,n5,c5,A6,n6,c6,rfl,M,hf,-⟩:=hd.ex;have lr:=M.an;have ll:=X.an;refine aF func38 Z<|box λb1 w1 h1=>?_;have B1:=h1.aS;refine go<|bW (H9 (a1.ae h1.ae) (X.ae h1.ae)) λw2 x2=>?_;have B1:=B1.ae x2;have J:=h1.ae.trans x2;refine cN (λg=>?_) λg=>?_
 .exact xN (aY) (.bool false) (iv (iJ d cl)) U rfl rfl ⟨J,.inl ⟨g,U⟩⟩
 obtain⟨g1,g2⟩:=sY.1 g;have V:=gY g1;obtain⟨k1,k2⟩:=oD.1 g2;refine go<|aJ (Gz (M.ae J) (hf.ae J) ⟨V.n.2,V.f⟩) ?_;rintro _ w3 ⟨gm,rfl,x3,T⟩;have u:=J.trans x3;refine aJ (Ib (D:=λ_=>True) V ((M.ae u).ar Yd λ_ _ _=>Yt) ⟨Yt,T.ex.imp λm hm=>⟨hm.1,λr=>by obtain⟨A,n,c,e,hs,hc⟩:=hm.2 r;exact⟨A,n,c,e,hs.ar Yd λ_ _ _=>Yt,hc⟩⟩⟩ ((X.ae u).ar Yd λ_ _ _=>Yt) k2 Y) ?_;rintro _ w4 ⟨x4,⟨O,rfl⟩|⟨hs,bh,W,rfl,hb,Bh⟩⟩
 .exact xN (aY) (.bool false) (iv 0) U rfl rfl ⟨u.trans x4,.inr (.inl ⟨g,O,U⟩)⟩
 .exact xN (aB (aL bh) n1 n1) (.bool true) (iv 0) U rfl rfl ⟨u.trans x4,.inr (.inr ⟨g,hs,bh,W,by rw[lr],by have:=u.size;omega,Bh⟩)⟩
set_option maxRecDepth 4000 in
theorem U8{c:Nat}(hd:iG D w [.string d.name,iv d.aG,iv d.cap,iv d.bH,aB A1 n1 c1,aB A2 n2 c2,aB A3 n3 c3,aB A4 n4 c4,aB A5 n5 c5,aB A6 n6 c6] d)(hr:bS lH D w A1 n1 d.aD)(hf:bS yQ D w A2 n2 d.aR)(hl:bS cO D w A n cl):aK prog 123 #[.agg #[.string d.name,iv d.aG,iv d.cap,iv d.bH,aB A1 n1 c1,aB A2 n2 c2,aB A3 n3 c3,aB A4 n4 c4,aB A5 n5 c5,aB A6 n6 c6],aB A n c] w (λv w'=>ax w w'/\((iM d cl≠0/\∃ts:aW,ts.length=11/\ts.all (λu=>u.oneCell')=true/\v=.tuple #[.agg ts.toArray,aY,iv (iM d cl)])\/(iM d cl=0/\∃hs bh g,dT d cl=some hs/\v=.tuple #[.agg #[.string d.name,iv d.aG,iv d.cap,iv d.bH,aB A1 n1 c1,aB A2 n2 c2,aB A3 n3 c3,aB A4 n4 c4,aB A5 n5 c5,aB A6 n6 c6,.map (some g)],aB (aL bh) n1 n1,iv 0]/\w.heap.size<=bh/\aP w' bh 3 (cJ hs)/\wc (λb=>w.heap.size<=b) w' g d))):=by
 have lr:=hr.an;have ll:=hl.an;refine aF func123 Z ?_;refine box λb1 w1 h1=>?_;refine alloc λb2 w2 h2=>?_;refine ND ?_;intro e1 e2 s1 s2;have x2:=h1.ae.trans h2.ae;have B1:aP w2 b1 31 [.string d.name,iv d.aG,iv d.cap,iv d.bH,aB A1 n1 c1,aB A2 n2 c2,aB A3 n3 c3,aB A4 n4 c4,aB A5 n5 c5,aB A6 n6 c6]:=h1.aS.ae h2.ae;have B2:aP w2 b2 239 [.string ByteArray.empty,iv 0,iv 0,iv 0,aY,aY,aY,aY,aY,aY,.map none]:=h2.aS;refine go ?_;refine bW (H9 (hd.ae x2) (hl.ae x2)) λw3 x3=>?_;have x03:=x2.trans x3;obtain⟨B1,B2⟩:=zQ x3 B1 B2;have z3:=x3.size;refine cN (λg=>?_) λg=>?_
 .refine go ?_;refine fg B2 λw4 B4 k4 z4=>?_;refine ret ?_;refine da _ (bU (bF.aS B4) U) ?_;have J:iM d cl=iJ d cl:=by unfold iM;rw[asp g]
  exact⟨x03.ag k4 λb hb _ e=>Y,.inl ⟨by rw[J];exact g,[.string ByteArray.empty,iv 0,iv 0,iv 0,aY,aY,aY,aY,aY,aY,.map none],U,U,by rw[J];rfl⟩⟩
 obtain⟨g1,g2⟩:=sY.1 g;have V:=gY g1;obtain⟨k1,k2⟩:=oD.1 g2;refine go ?_;refine aJ (Gz (hr.ae x03) (hf.ae x03) ⟨V.n.2,V.f⟩) ?_;rintro _ w4 ⟨O,rfl,x4,T⟩;have x04:=x03.trans x4;refine fg (B2.ae x4) λw5 B5 k5 z5=>?_;have B5:aP w5 b2 239 [.string d.name,iv d.aG,iv d.cap,iv d.bH,aB A1 n1 c1,aB A2 n2 c2,aB A3 n3 c3,aB A4 n4 c4,aB A5 n5 c5,aB A6 n6 c6,.map (some O)]:=B5;have z4:=x4.size;have x05:ax w w5:=x04.ag k5 λb hb _ e=>Y;have T0:wc (λb=>w3.heap.size<=b) w5 O d:=T.ah k5 λb hb h=>Y;have T5:wc (λb=>w.heap.size<=b) w5 O d:=⟨by have:=T0.own;have:=x03.size;omega,T0.ex.imp λm hm=>⟨hm.1,λr=>by obtain⟨A,n,c,e,hs,hc⟩:=hm.2 r;exact⟨A,n,c,e,hs.ar Yd λb _ h=>by have:=x03.size;omega,hc⟩⟩⟩;refine go ?_;refine aJ (Ib (D:=λ_=>True) V ((hr.ae x05).ar Yd λ_ _ _=>Yt) ⟨Yt,T5.ex.imp λm hm=>⟨hm.1,λr=>by obtain⟨A,n,c,e,hs,hc⟩:=hm.2 r;exact⟨A,n,c,e,hs.ar Yd λ_ _ _=>Yt,hc⟩⟩⟩ ((hl.ae x05).ar Yd λ_ _ _=>Yt) k2 Y) ?_;rintro _ w6 ⟨x6,⟨hno,rfl⟩|⟨hs,bh,hne,rfl,hb,Bh⟩⟩
 .have B6:=B5.ae x6;refine go ?_;refine fg B6 λw7 B7 k7 z7=>?_;have B7:aP w7 b2 239 [.string d.name,iv d.aG,iv d.cap,iv d.bH,aB A1 n1 c1,aB A2 n2 c2,aB A3 n3 c3,aB A4 n4 c4,aB A5 n5 c5,aB A6 n6 c6,.map (some O)]:=B7;refine ret ?_;refine da _ (bU (bF.aS B7) U) ?_;have J:iM d cl=410:=by unfold iM;rw[aso λh=>h g,asp hno]
  exact⟨(x05.trans x6).ag k7 λb hb _ e=>Y,.inl ⟨by rw[J];decide,[.string d.name,iv d.aG,iv d.cap,iv d.bH,aB A1 n1 c1,aB A2 n2 c2,aB A3 n3 c3,aB A4 n4 c4,aB A5 n5 c5,aB A6 n6 c6,.map (some O)],U,U,by rw[J];rfl⟩⟩
 .have B6:=B5.ae x6;refine go ?_;refine fg B6 λw7 B7 k7 z7=>?_;refine ret<|da _ (bU (bF.aS B7) U) ?_;have J:=qp.2 ⟨g,hs,hne⟩;have a6:=x05.size;have l5:=B5.lt;exact⟨(x05.trans x6).ag k7 λb hb _ e=>Y,.inr ⟨J,hs,bh,O,hne,by rfl,Y,Bh.ah k7 Y,⟨T5.own,((T0.ae x6).ah k7 λb hb h=>Y).ex.imp λm hm=>⟨hm.1,λr=>by obtain⟨A,n,c,e,hs,hc⟩:=hm.2 r;exact⟨A,n,c,e,hs.ar Yd λb _ h=>by have:=x03.size;omega,hc⟩⟩⟩⟩⟩
theorem Q8{ps:List Pt}{p:Pt}{c:Nat}(h:bS tPt D w A n ps)(hp:p∈ps):aK prog 129 #[aB A n c,.agg (Gv p).toArray] w (λv V=>ax w V/\∃k:Nat,v=iv (k:Int)/\ps[k]? =some p):=by
 have ll:=h.an;have hle:=h.le;apply aF func129 Z;refine box λb1 O h1=>?_;have X:=h1.aS;apply an;apply aM (λk:Nat=>[(8,iv (k:Int))]) (λk u=>k<=n/\O=u/\p∉ps.take k) (λk _=>n-k) 0 ⟨U,Yt⟩ ⟨Y,U,by simp⟩ U;rintro G k u ⟨hk,rfl,J⟩;refine cD (λz=>?_) λW=>?_
 .have z:k<n:=Y;obtain⟨b,o,cs,x,rfl,M,-,-,hc,rfl⟩:=(h.ae h1.ae).au z;apply uo mx Z;apply fj _ (.aS X) U;apply idx k U z;refine go ?_;refine Uz ((p.1 == x.1)&&(((p.2:Int) == (x.2:Int))&&true)) Z (λq=>?_) λq=>?_
  .simp only[avJ,asv,avB] at q;obtain rfl:p=x:=Yg;exact aQ _ U ⟨h1.ae,k,U,M⟩
  .refine go ?_;refine next (k+1) ⟨Yn,Yt⟩ ⟨Y,U,λhm=>?_⟩ Y;rw[asD,M,atf] at hm;rcases hm with hm|hm
   .exact J hm
   .exact Yg
 .exact Yg
theorem U9{O:aW}{i:Int}(hd:iG D w O d):aK prog 42 #[.agg O.toArray,iv i] w (λv w'=>ax w w'/\((rQ d i≠0/\v=.tuple #[iv 0,iv 0,iv (rQ d i)])\/(rQ d i=0/\∃k:Nat,v=.tuple #[iv (jh d i.toNat).aZ,iv (k:Int),iv 0]/\(fF d (jh d i.toNat).aZ)[k]? =some (true,i.toNat)))):=by
 have hd0:=hd;obtain⟨A1,n1,c1,A2,n2,c2,A3,n3,c3,A4,n4,c4,A5,n5,c5,A6,n6,c6,rfl,hr,hf,-⟩:=hd.ex;have lr:=hr.an;have lf:=hf.an;refine aF func42 Z<|box λb1 w1 h1=>?_;have B1:=h1.aS;refine go<|bW (ko (hd0.ae h1.ae)) λw2 x2=>?_;have xx:=h1.ae.trans x2;have B1:=B1.ae x2;refine cN (λg=>?_) λg=>?_
 .have e:rQ d i=cH d:=by unfold rQ;rw[asp g]
  exact xN (iv 0) (iv 0) (iv (cH d)) U rfl rfl ⟨xx,.inl ⟨by rw[e];exact g,by rw[e]⟩⟩
 have g:cH d=0:=g;have V:=gY g;have e0:rQ d i=if 0<=i/\i<d.aR.length then 0 else 1:=by unfold rQ;rw[aso λh=>h g]
 refine cD (λg1=>?_) λg1=>?_
 .exact X4
 refine go<|cD (λg2=>?_) λg2=>?_
 .exact X4
 have e:rQ d i=0:=by rw[e0,asp Y]
 obtain⟨j,rfl⟩:∃j:Nat,i=j:=⟨i.toNat,Y⟩;obtain⟨bb,o,cs,x,rfl,hx,-,-,hc,rfl⟩:=(hf.ae xx).au (k:=j) Y;have J:=jJ hx;refine go<|aJ (Gz (hr.ae xx) (hf.ae xx) ⟨V.n.2,V.f⟩) ?_;rintro _ w3 ⟨gm,rfl,x3,-,m,Mm,hm⟩;obtain⟨P,np,cp,ee,a6,hcp⟩:=hm x.aZ;refine ZK (.map (some gm)) U<|dh (kv:=fY) x.aZ (aB P np cp) (λz hz=>⟨m,by rw[hz];exact Mm,ee⟩)<|hY [.bool true,iv (j:Int)] Z<|aJ (Q8 (p:=(true,j)) a6 (eU.2 (.inl ⟨U,by simp only;omega,by rw[J]⟩))) ?_;rintro _ w4 ⟨x4,k,rfl,hk⟩;exact xN (iv x.aZ) (iv (k:Int)) (iv 0) U rfl rfl ⟨(xx.trans x3).trans x4,.inr ⟨e,k,by rw[show(j:Int).toNat=j from U,J],by rw[show(j:Int).toNat=j from U,J];exact hk⟩⟩
end
theorem abx{P:Program}{sz:Nat}[h:cu P t e sz]{xo yo:Operand}{c:Nat}{K:Value->Prop}(k1:A=none->K (.bool true))(k2:A≠none->K (.bool false)):AF P .eql t xo yo (aB A n c) (aY) K:=by
 exact aok
theorem Ie{D:Nat->Prop}{w:World}:∀{xs:aX} {cs:aW},dW cO D w xs cs->cs=xs.map λv=>Value.int .i64 v
 |[],_,h=>h
 |y::r,_,⟨A,z,h,⟨h1,_⟩,u⟩=>by rw[h,h1,Ie u];rfl
theorem jL{l:aX}{rest:aW}(h:aP w b t (cJ l++rest))(z:n=l.length)(A:∀x∈l,jt x)(hle:n<=140737488355328)(J:D b):bS cO D w (aL b) n l:=
 bS.jw z hle J (λk v u=>by
  rw[as9]
  exact h.ai (by rw[asR (asr.1 u).1];exact u)) (fX A)
section
open Classical
structure Ig (P:Program) (k e:TypeId) (f0 f1:Field):Prop where
 u:P.underlying k=some (.struct #[f0,f1])
 t0:f0.type=e
 t1:f1.type=e
 o0:f0.offset=0
 o1:f1.offset=1
 n0:f0.name≠ "_"
 n1:f1.name≠ "_"
 ue:P.underlying e=some (.int .i64)
 eq:∀a b c d:Int,Xo P 8 k (.agg #[.int .i64 a,.int .i64 b]) (.agg #[.int .i64 c,.int .i64 d])=some ((a == c)&&((b == d)&&true))
section
variable {P:Program}
theorem Q9{f0 f1:Field}(h:Ig P k e f0 f1)(b:Bool)(a:Int×Int)(w:World):(Instr.checkKey b 10000 k (dE a)).run P w=.ok () w:=by
 have J:(part e #[.int .i64 a.1,.int .i64 a.2] 0).run P w=.ok (.int .i64 a.1) w:=jS (by unfold uq;rw[h.ue];rfl) w;have p1:(part e #[.int .i64 a.1,.int .i64 a.2] 1).run P w=.ok (.int .i64 a.2) w:=jS (by unfold uq;rw[h.ue];rfl) w;have O:∀n:Int,(Instr.checkKey b 9999 e (.int .i64 n)).run P w=.ok () w:=λn=>Yy
 rw[show(10000:Nat)=9999+1 from rfl];unfold Instr.checkKey;simp only[asI,asX h.u,asJ];simp only[<-Array.forIn_toList,List.forIn_cons,List.forIn_nil,asp h.n0,asp h.n1,asI,h.t0,h.t1,h.o0,h.o1,J,p1,O,asJ,atr]
theorem Rb{k e:TypeId}{f0 f1:Field}(h:Ig P k e f0 f1)(a:Int×Int)(L:List MapEntry)(w:World)(J:∀e∈L,∃q,e.key=dE q):(Instr.findKey k (dE a) L).run P w=.ok (gz (dE a) L 0) w:=by
 have heq:∀q,(Op.equal k (dE a) (dE q)).run P w=.ok ((a.1 == q.1)&&((a.2 == q.2)&&true)) w:=λq=>zR 9992 8 k _ _ _ (h.eq a.1 a.2 q.1 q.2) w;have ask:∀(L:List MapEntry) (i:Nat),(∀e∈L,∃q,e.key=dE q)->(Instr.findAsking k (dE a) L i).run P w=.ok (gz (dE a) L i) w:=an9
 unfold Instr.findKey;rw[asI,asX h.u];simp only[asJ];cases L with
 |nil=>simp[Instr.findNow,gz]
 |cons x r=>
  obtain⟨q,hq⟩:=J x ass;have:Instr.findNow (.struct #[f0,f1]) (dE a) (x::r) 0=none:=by unfold Instr.findNow;rw[hq];rfl
  rw[this];exact ask _ 0 J
theorem Ig.law{f0 f1:Field}(h:Ig P k e f0 f1):rD P k dE where
 inj a b h:=Yg
 UA:=Q9 h
 bits a:=by
  rw[show(10000:Nat)=9998+1+1 from rfl]
  simp[Instr.sameBits]
 Xp:=Rb h
theorem Kz{κ:Type}{kv:κ->Value}{S:World->Prop}{t k e:TypeId}{zv:Value}[hm:jx P t k e][hk:rD P k kv][hz:bQ P e zv]{g:Nat}(a:κ){K:Value->Prop}(v:Option Value)(h:∀u,S u->∃f:κ->Option Value,dw kv u g f/\f a=v)(k1:∀x,v=some x->K (.tuple #[x,.bool true]))(k2:v=none->K (.tuple #[zv,.bool false])):Ht P S t (.map (some g)) (kv a) true K:=by
 rw[pc];cases v with
 |none=>
  refine⟨_,λw hw w0 e0=>?_,k2 rfl⟩;exact aor
 |some x=>
  refine⟨_,λw hw w0 e0=>?_,k1 x rfl⟩;exact aor
end
end
section
variable {P:Program} {X:XK} {ops:Array Oper} {K:Fr->World->Prop} {F:Fr} {w:World}
theorem Va{l:List Nat}{F u:Fr}(h:vu l F u):PZ l F u=u:=funext λj=>by
 show(bif xI j l then u j else F j)=u j;cases z:xI j l with
 |true=>rfl
 |false=>exact(h j z).symm
theorem aby(A:World->Prop)(h:mM P ops (λ_ u=>A u) X F w)(k:∀G u,A u->K (PZ (wr ops.toList) F G) u):mM P ops K X F w:=
 En h λJ u z hk=>by
  rw[<-Va z];exact k J u hk
end
abbrev uN(l:List Mk):aW:=l.flatMap kQ
theorem Vb{a b:List Mk}:uN (a++b)=uN a++uN b:=as7
theorem Ms:∀{a:List Mk},(uN a).length=a.length*4
 |[]=>rfl
 |x::a=>by show(kQ x++uN a).length=(a.length+1)*4;rw[asu,Ms];show 4+_=_;omega
theorem Ih:∀(l:List Mk) (i:Nat),(uN l).take (i*4)=uN (l.take i)
 |[],i=>by simp[uN]
 |x::l,0=>by simp[uN]
 |x::l,i+1=>by
  show(kQ x++uN l).take ((i+1)*4)=kQ x++uN (l.take i)
  rw[show(i+1)*4=(kQ x).length+i*4 by show _=4+_;omega,List.take_length_add_append,Ih l i]
theorem BQ:∀(l:List Mk) (i:Nat),(uN l).drop (i*4)=uN (l.drop i)
 |[],i=>by simp[uN]
 |x::l,0=>by simp[uN]
 |x::l,i+1=>by
  show(kQ x++uN l).drop ((i+1)*4)=uN (l.drop i)
  rw[show(i+1)*4=(kQ x).length+i*4 by show _=4+_;omega,List.drop_length_add_append,BQ l i]
theorem Vc{m:Mk}(h:i<l.length):(uN l).take (i*4)++kQ m++(uN l).drop (i*4+4)=uN (l.set i m):=by
 rw[Ih,show i*4+4=(i+1)*4 from Y,BQ,auW,asp h,Vb,as5];rfl
theorem zI:cJ (List.replicate n 0)=(List.replicate n (cz (iv 0))).flatten:=by
 exact X1
theorem zM:∀{n:Nat},uN (List.replicate n Mk.none)=(List.replicate n (cz (.agg #[.bool false,iv 0,iv 0,iv 0]))).flatten
 |0=>rfl
 |n+1=>by
  rw[au6,au6,List.flatten_cons,<-zM];rfl
def mP(d:aU)(cl:aX)(E:Int):Int:=if iM d cl≠0 then iM d cl else if 0<=E/\E<=1099511627776 then 0 else 1
section
variable {D:Nat->Prop} {w:World}
theorem Ii{G M:bZ}{b3 b6 J O ch ng cg nm cm:Nat}{n:Int}{hd:aX}(hr:bS lH D w A1 n1 d.aD)(h3:aP w b3 31 [.string d.name,iv d.aG,iv d.cap,iv d.bH,aB A1 n1 c1,aB A2 n2 c2,aB A3 n3 c3,aB A4 n4 c4,aB A5 n5 c5,aB A6 n6 c6])(h6:aP w b6 140 [aB (aL J) O ch,aB G ng cg,aB M nm cm])(Y:aP w J 3 (cJ hd))(hl:hd.length=O)(u:r<n1)(z:r<O):aK prog 124 #[iv (r:Int),iv n,ptr b3,ptr b6] w (λv X=>v=.tuple #[]/\aP X J 3 (cJ (hd.set r (cut d r n)))/\aj (λb=>b≠J) w X):=by
 apply aF func124 Z;obtain⟨bb,o,cs,x,rfl,hx,-,-,hc,rfl⟩:=hr.au u;have A:=jm hx;apply bC;apply ld _ (h3.ai U);apply idx r U u;refine go ?_;refine cD (λg=>?_) λg=>?_
 .have e:cut d r n=0:=by unfold cut;rw[A,asp g]
  refine bC ?_;refine ld _ (h6.ai U) ?_;refine idx r U z ?_;refine st (v:=iv 0) Y (by simp;omega) U λu2 W V z2=>?_;refine mD ⟨U,?_,V⟩;rw[e,<-ij];simpa using W
 .have e:cut d r n=n:=by unfold cut;rw[A,aso g]
  refine bC ?_;refine ld _ (h6.ai U) ?_;refine idx r U z ?_;refine st (v:=iv n) Y (by simp;omega) U λu2 W V z2=>?_;refine mD ⟨U,?_,V⟩;rw[e,<-ij];simpa using W
set_option maxRecDepth 8000 in
set_option maxHeartbeats 1000000 in
theorem Oc{gb:aW}{d:aU}{cl:aX}{A:bZ}{n c:Nat}{E:Int}(hd:iG D w gb d)(hl:bS cO D w A n cl):aK prog 41 #[.agg gb.toArray,aB A n c,iv E] w (λv w'=>ax w w'/\((mP d cl E≠0/\v=.tuple #[.agg #[aY,aY,aY],iv (mP d cl E)])\/(mP d cl E=0/\∃hs H G M bh ba bm,dT d cl=some hs/\DO d cl hs/\oQ d cl hs E H G M/\vY H/\vY G/\v=.tuple #[.agg #[aB (aL bh) d.aD.length d.aD.length,aB (aL ba) d.aR.length d.aR.length,aB (aL bm) d.aD.length d.aD.length],iv 0]/\aP w' bh 3 (cJ H)/\aP w' ba 3 (cJ G)/\aP w' bm 134 (uN M)/\w.heap.size<=bh/\w.heap.size<=ba/\w.heap.size<=bm))):=by
 have hd0:=hd;obtain⟨A1,n1,c1,A2,n2,c2,A3,n3,c3,A4,n4,c4,A5,n5,c5,A6,n6,c6,rfl,hr,hf,-⟩:=hd.ex;have lr:=hr.an;have lf:=hf.an;have ll:=hl.an;refine aF (args:=[.agg #[.string d.name,iv d.aG,iv d.cap,iv d.bH,aB A1 n1 c1,aB A2 n2 c2,aB A3 n3 c3,aB A4 n4 c4,aB A5 n5 c5,aB A6 n6 c6],aB A n c,iv E]) func41 Z<|box λb3 w1 h1=>box λb4 w2 h2=>alloc λb6 w3 h3=>?_;have e1:=h1.au;have e2:=h2.au;have e3:=h3.au;have s1:=h1.size;have s2:=h2.size;have s3:=h3.size;have x3:=(h1.ae.trans h2.ae).trans h3.ae;have B3:=h1.aS.ae (h2.ae.trans h3.ae);have B4:=h2.aS.ae h3.ae;have B6:=h3.aS;refine fj _ (.aS B3) U<|ld _ (B4.ai U)<|aJ (U8 (hd0.ae x3) (hr.ae x3) (hf.ae x3) (hl.ae x3)) ?_;rintro _ w4 ⟨x4,⟨g,ts,ep,j4,rfl⟩|⟨g,hs,bs,gm,hne,rfl,qS,Bs,T⟩⟩
 .refine alloc λb8 v1 h4=>alloc λb9 v2 h5=>jR (vs:=ts) (h4.aS.ae h5.ae) ep (by rw[ep];exact asB U) (λu hu=>asH.1 j4 u hu) λv3 C3 k3 z3=>?_;have f4:=h4.au;have f5:=h5.au;have g4:=h4.size;have g5:=h5.size;have z4:=x4.size;have gl:=x3.size;refine st1 (h5.aS.ah k3 Y) U λv4 C4 k4=>?_;have xv:=(((x4.trans h4.ae).trans h5.ae).ag k3 λb hb _ e=>Y).ag k4 λb hb _ e=>Y;have eo:mP d cl E=iM d cl:=by unfold mP;rw[asp g]
  refine cN (λg'=>?_) λg'=>absurd g' g;have B6:=B6.ae xv;refine fj _ (.aS B6) U<|jR (vs:=[aY,aY,aY]) B6 U Yl Ys λv5 C5 k5 z5=>?_;refine ret<|da _ (bU (bF.aS C5) U) ?_;have ob:=xv.size;exact⟨(x3.trans xv).ag k5 λb hb _ e=>Y,.inl ⟨by rw[eo];exact g,by rw[eo];rfl⟩⟩
 have eo:mP d cl E=if 0<=E/\E<=1099511627776 then 0 else 1:=by unfold mP;rw[aso λh=>h g]
 obtain⟨g0,-⟩:=qp.1 g;have R:=Gs g0 hne;have qi:=R.v.n;have qj:=R.v.f;have z4:=x4.size;have gl:=x3.size;have pe:=Bs.lt;have x04:=x3.trans x4;have om:=x04.size;have kc:bS lH (λb=>b<w4.heap.size/\b≠b6) w4 A1 n1 d.aD:=((hr.ar (D':=λb=>b<w.heap.size) Yd λb hb _=>hb).ae x04).ar Yd λb hb h=>⟨hb,Y⟩;have hl4:bS cO (λb=>b<w4.heap.size/\b≠b6) w4 A n cl:=((hl.ar (D':=λb=>b<w.heap.size) Yd λb hb _=>hb).ae x04).ar Yd λb hb h=>⟨hb,Y⟩;have T4:wc (λb=>b<w4.heap.size/\b≠b6) w4 gm d:=⟨⟨T.ex.elim λm hm=>hm.1.lt,by have:=T.own;omega⟩,T.ex.imp λm hm=>⟨hm.1,λr=>by obtain⟨A,n,c,e,hs,hc⟩:=hm.2 r;exact⟨A,n,c,e,hs.ar Yd λb hb h=>⟨hb,Y⟩,hc⟩⟩⟩;refine alloc λb8 v1 h4=>alloc λb9 v2 h5=>jR (vs:=[.string d.name,iv d.aG,iv d.cap,iv d.bH,aB A1 n1 c1,aB A2 n2 c2,aB A3 n3 c3,aB A4 n4 c4,aB A5 n5 c5,aB A6 n6 c6,.map (some gm)]) (h4.aS.ae h5.ae) U Yl Ys λv3 B8 k3 z3=>?_;have f4:=h4.au;have f5:=h5.au;have g4:=h4.size;have g5:=h5.size;refine st1 (h5.aS.ah k3 Y) U λw5 B9 k4=>?_;have g6:=k4.size;have B8:=B8.ah k4 Y;have af:=((h4.ae.trans h5.ae).ag k3 λb hb _ e=>Y).ag k4 λb hb _ e=>Y;have B3:=(B3.ae x4).ae af;have B4:=(B4.ae x4).ae af;have B6:=(B6.ae x4).ae af;have kb:=kc.ae af;have kB:=hl4.ae af;have T5:=T4.ae af;have Bs:=Bs.ae af;have x05:=x04.trans af;refine cN (λg'=>absurd U g') λ_=>?_;have bad:¬(0<=E/\E<=1099511627776)->mP d cl E=1:=λh=>by rw[eo,aso h]
 refine cD (λgE=>?_) λgE=>?_
 .exact aoL
 refine cD (λgF=>?_) λgF=>?_
 .exact aoL
 have hE:0<=E/\E<=1099511627776:=Y;have eo:mP d cl E=0:=by rw[eo,asp hE]
 have qd:=B6.lt;refine aby (λu=>aj (λb=>b≠b6) w5 u/\∃bh ba bm,aP u b6 140 [aB (aL bh) n1 n1,aB (aL ba) n2 n2,aB (aL bm) n1 n1]/\aP u bh 3 (cJ (List.replicate n1 0))/\aP u ba 3 (cJ (List.replicate n2 0))/\aP u bm 134 (uN (List.replicate n1 Mk.none))/\(w5.heap.size<=bh/\w5.heap.size<=ba/\w5.heap.size<=bm)/\bh≠ba/\bh≠bm/\ba≠bm) ?_ ?_
 .refine bR (.take 0 (.take 1 (.take 2 (.take 4 (.take 5 (.take 6 (.take 8 (.take 9 (.take 10 (.alt 3 (.alt 7 (oP [11,13] [] [11,12,13]) (oP [11,7,13] [] [11,7,12,13])) (.alt 7 (.alt 3 (oP [11,13] [] [11,12,13]) (oP [11,3,13] [] [11,3,12,13])) (.DF 11 (.alt 3 (oP [7,13] [] [7,12,13]) (oP [7,3,13] [] [7,3,12,13])))))))))))))) [] (λu=>aj (λb=>b≠b6) w5 u) mx Z (.refl _ _) ?_;refine adO ?_;refine adO ?_;refine adO ?_;refine⟨?_,?_⟩
  .refine i7 (sz:=1) (zv:=iv 0) n1 U rfl Y Y U Yd λbh u1 i1=>bN (ax.any i1.ae)<|⟨?_,?_⟩
   .refine i7 (sz:=1) (zv:=iv 0) n2 U rfl Y Y U Yd λba u2 i2=>bN (ax.any (i1.ae.trans i2.ae))<|i7 (sz:=4) (zv:=.agg #[.bool false,iv 0,iv 0,iv 0]) n1 U rfl Y Y U Yd λbm u3 i3=>bN (ax.any ((i1.ae.trans i2.ae).trans i3.ae)) ?_;refine s_3 ?_;intro xx z0 y1 q1 y2 q2 y3 q3 u4 b4 k4 z4;have kk:=(ax.any xx).trans k4;refine bN kk<|⟨kk,bh,ba,bm,b4,by rw[zI];exact(((i1.aS.ae i2.ae).ae i3.ae).ah k4 Y),by rw[zI];exact((i2.aS.ae i3.ae).ah k4 Y),by rw[zM];exact(i3.aS.ah k4 Y),⟨Y,Y,Y⟩,Y,Y,Y⟩
   .refine i7 (sz:=4) (zv:=.agg #[.bool false,iv 0,iv 0,iv 0]) n1 U rfl Y Y U Yd λbm u2 i2=>bN (ax.any (i1.ae.trans i2.ae))<|i7 (sz:=1) (zv:=iv 0) n2 U rfl Y Y U Yd λba u3 i3=>bN (ax.any ((i1.ae.trans i2.ae).trans i3.ae)) ?_;refine s_3 ?_;intro xx z0 y1 q1 y2 q2 y3 q3 u4 b4 k4 z4;have kk:aj (λb=>b≠b6) w5 u4:=(ax.any xx).trans k4;refine bN kk<|⟨kk,bh,ba,bm,b4,by rw[zI];exact(((i1.aS.ae i2.ae).ae i3.ae).ah k4 Y),by rw[zI];exact(i3.aS.ah k4 Y),by rw[zM];exact((i2.aS.ae i3.ae).ah k4 Y),⟨Y,Y,Y⟩,Y,Y,Y⟩
  .refine⟨?_,?_⟩
   .refine i7 (sz:=1) (zv:=iv 0) n2 U rfl Y Y U Yd λba u1 i1=>bN (ax.any i1.ae)<|⟨?_,?_⟩
    .refine i7 (sz:=1) (zv:=iv 0) n1 U rfl Y Y U Yd λbh u2 i2=>bN (ax.any (i1.ae.trans i2.ae))<|i7 (sz:=4) (zv:=.agg #[.bool false,iv 0,iv 0,iv 0]) n1 U rfl Y Y U Yd λbm u3 i3=>bN (ax.any ((i1.ae.trans i2.ae).trans i3.ae)) ?_;refine s_3 ?_;intro xx z0 y1 q1 y2 q2 y3 q3 u4 b4 k4 z4;have kk:aj (λb=>b≠b6) w5 u4:=(ax.any xx).trans k4;refine bN kk<|⟨kk,bh,ba,bm,b4,by rw[zI];exact((i2.aS.ae i3.ae).ah k4 Y),by rw[zI];exact(((i1.aS.ae i2.ae).ae i3.ae).ah k4 Y),by rw[zM];exact(i3.aS.ah k4 Y),⟨Y,Y,Y⟩,Y,Y,Y⟩
    .refine i7 (sz:=4) (zv:=.agg #[.bool false,iv 0,iv 0,iv 0]) n1 U rfl Y Y U Yd λbm u2 i2=>bN (ax.any (i1.ae.trans i2.ae))<|i7 (sz:=1) (zv:=iv 0) n1 U rfl Y Y U Yd λbh u3 i3=>bN (ax.any ((i1.ae.trans i2.ae).trans i3.ae)) ?_;refine s_3 ?_;intro xx z0 y1 q1 y2 q2 y3 q3 u4 b4 k4 z4;have kk:aj (λb=>b≠b6) w5 u4:=(ax.any xx).trans k4;refine bN kk<|⟨kk,bh,ba,bm,b4,by rw[zI];exact(i3.aS.ah k4 Y),by rw[zI];exact(((i1.aS.ae i2.ae).ae i3.ae).ah k4 Y),by rw[zM];exact((i2.aS.ae i3.ae).ah k4 Y),⟨Y,Y,Y⟩,Y,Y,Y⟩
   .refine i7 (sz:=4) (zv:=.agg #[.bool false,iv 0,iv 0,iv 0]) n1 U rfl Y Y U Yd λbm u1 i1=>bN (ax.any i1.ae)<|⟨?_,?_⟩
    .refine i7 (sz:=1) (zv:=iv 0) n1 U rfl Y Y U Yd λbh u2 i2=>bN (ax.any (i1.ae.trans i2.ae))<|i7 (sz:=1) (zv:=iv 0) n2 U rfl Y Y U Yd λba u3 i3=>bN (ax.any ((i1.ae.trans i2.ae).trans i3.ae)) ?_;refine s_3 ?_;intro xx z0 y1 q1 y2 q2 y3 q3 u4 b4 k4 z4;have kk:aj (λb=>b≠b6) w5 u4:=(ax.any xx).trans k4;refine bN kk<|⟨kk,bh,ba,bm,b4,by rw[zI];exact((i2.aS.ae i3.ae).ah k4 Y),by rw[zI];exact(i3.aS.ah k4 Y),by rw[zM];exact(((i1.aS.ae i2.ae).ae i3.ae).ah k4 Y),⟨Y,Y,Y⟩,Y,Y,Y⟩
    .refine i7 (sz:=1) (zv:=iv 0) n2 U rfl Y Y U Yd λba u2 i2=>bN (ax.any (i1.ae.trans i2.ae))<|i7 (sz:=1) (zv:=iv 0) n1 U rfl Y Y U Yd λbh u3 i3=>bN (ax.any ((i1.ae.trans i2.ae).trans i3.ae)) ?_;refine s_3 ?_;intro xx z0 y1 q1 y2 q2 y3 q3 u4 b4 k4 z4;have kk:aj (λb=>b≠b6) w5 u4:=(ax.any xx).trans k4;refine bN kk<|⟨kk,bh,ba,bm,b4,by rw[zI];exact(i3.aS.ah k4 Y),by rw[zI];exact((i2.aS.ae i3.ae).ah k4 Y),by rw[zM];exact(((i1.aS.ae i2.ae).ae i3.ae).ah k4 Y),⟨Y,Y,Y⟩,Y,Y,Y⟩
 rintro G6 w6 ⟨k56,bh,ba,bm,B6,Bh,Ba,Bm,⟨r4,r5,r3⟩,oG,oA,oL⟩;have o4:=k56.size;have B3:=B3.ah k56 Y;have B4:=B4.ah k56 Y;have B8:=B8.ah k56 Y;have B9:=B9.ah k56 Y;have Bs:=Bs.ah k56 Y;have jo:=kb.ah k56 λb _ h=>Y;have hl6:=kB.ah k56 λb _ h=>Y;have T6:=T5.ah k56 λb _ h=>Y;have x06:ax w w6:=x05.ag k56 λb hb _ e=>Y;have qg:=B3.lt;have qe:=B4.lt;have qc:=B8.lt;have qa:=B9.lt;have pr:=Bh.lt;have q8:=Ba.lt;have pn:=Bm.lt;refine alloc λb10 w7 h7=>st1 h7.aS U λw8 B10 k8=>?_;have f7:=h7.au;have g7:=h7.size;have z8:=k8.size;have b0:ax w6 w8:=h7.ae.ag k8 λb hb _ e=>Y;obtain⟨B3,B4,B6,B8,B9⟩:=Pz b0 B3 B4 B6 B8 B9;obtain⟨Bs,Bh,Ba,Bm⟩:=Xj b0 Bs Bh Ba Bm;have ew:=jo.ae b0;have kr:=hl6.ae b0;have T8:=T6.ae b0;have gp:=x06.trans b0;have r6:=jK R.JU 0;refine bR (oP [5,6,7] [7] [0,1,2,3,4,5,6,7]) [7] (λz=>ax w8 z) mx Z (.refl _ _) ?_;have j5:bS cO (λb=>b=bs) w8 (aL bs) n1 hs:=we Bs (by rw[R.lh];omega) R.JU Y U;obtain⟨bq,oq,rE,x0,cS,hx0,-,-,l4,rfl,-⟩:=j5.au (k:=0) Y;injection cS with cS;injection cS with kj hq2;subst kj;subst hq2;have lA:x0=bL hs 0:=by rw[cY hx0]
 refine fu (.func (.func 124) #[] #[ptr b3,ptr b6]) (B10.ai U) Yt (.refl _ _)<|fu (aB (aL bs) n1 n1) (B9.ai U) Yt (.refl _ _)<|idx 0 U Y<|fu (iv x0) (l4 0 _ U) Yt (.refl _ _)<|lit [iv x0] λgg v4 hq=>bN hq.ae<|aJ (H7 (n:=E) (l:=[x0]) (m:=1) (D:=λ_=>True) (bS.jw U Yd Yt (.aS hq.aS) (fX λx hx=>by rw[asP] at hx;rw[hx];unfold jt;omega))) ?_;rintro _ v5 ⟨rfl,rfl⟩;refine bN hq.ae<|gv (λ_=>True) Yt ?_;have em:List.foldl min E [x0]=min E (bL hs 0):=by rw[<-lA];rfl
 rw[em];have xq:=hq.ae;have zq:=xq.size;refine aJ (Ii (r:=0) (ew.ae xq) (B3.ae xq) (B6.ae xq) (Bh.ae xq) (atz ..) (by omega:0<n1) Y) ?_;rintro _ w9 ⟨rfl,Bh,k9⟩;refine go ?_;have z9:=k9.size;have O:aj (λb=>b≠bh) w8 w9:=(ax.any xq).trans k9;have Ba:=Ba.ah O Y;have Bm:=Bm.ah O Y;have B3:=B3.ah O Y;have B4:=B4.ah O Y;have B6:=B6.ah O Y;have B8:=B8.ah O Y;have B9:=B9.ah O Y;have B10:=(show aP w8 b10 _ _ from B10).ah O Y;have Bs:=Bs.ah O Y;have jb:=ew.ah O λb _ h=>Y;have kn:=kr.ah O λb _ h=>Y;have T9:=T8.ah O λb _ h=>Y;have dO:ax w w9:=gp.ag O λb hb _=>Y;have D0:=zn.bH (E:=E) R hE.1;rw[lr,lf] at D0;refine fj [.string d.name,iv d.aG,iv d.cap,iv d.bH,aB A1 n1 c1,aB A2 n2 c2,aB A3 n3 c3,aB A4 n4 c4,aB A5 n5 c5,aB A6 n6 c6,.map (some gm)] (.aS B8) U<|aJ (BP (d:=d) (lv:=false)) ?_;rintro _ w10 ⟨bt,bl,rfl,bw,Ct,Cl,qR,hbl⟩;have oe:=bw.size;have p0:=Cl.lt;obtain⟨B3,B4,B6,B9,B10⟩:=Pz bw B3 B4 B6 B9 B10;obtain⟨Bs,Bh,Ba,Bm⟩:=Xj bw Bs Bh Ba Bm;refine range (gf:=209) (lb:=#[ptr bt,ptr bl]) U λfn tmps be RR fU hF' j1 bo oc fW ff=>?_;show aK _ _ #[.func (.yield (w10.heap.size+1)) #[] #[],ptr bt,ptr bl] be _;have gn:ax w be:=(dO.trans bw).trans bo;have cb:=bw.trans bo;have j8:=jb.ae cb;have kl:=kn.ae cb;have TB:=T9.ae cb;obtain⟨B3,B4,B6,B9,B10⟩:=Pz bo B3 B4 B6 B9 B10;obtain⟨Bs,Bh,Ba,Bm,Ct⟩:=Pz bo Bs Bh Ba Bm Ct;have Cl:=Cl.ae bo;refine(yS (Q:=λ_=>False) (D:=λb=>b≠bh/\b≠ba/\b≠bm/\b≠w10.heap.size+1) (D':=λb=>b<w4.heap.size/\b≠b6) (λk u=>∃hd aw mk,zn d cl hs E hd aw mk k/\aP u bh 3 (cJ hd)/\aP u ba 3 (cJ aw)/\aP u bm 134 (uN mk)/\dc u (w10.heap.size+1) RR) ⟨Y,Y,Y,Y⟩ ⟨Y,Y,Y,Y⟩ (λb hb=>⟨Y,Y,Y,Y⟩) Ct Cl TB ⟨Y,Y⟩ U ?_ ⟨_,_,_,D0,Bh,Ba,Bm,ff⟩).mono ?_
 .rintro i P np cp u qE ⟨a6,aw,mk,Dv,df,dx,cT,lu⟩ ku sp hcp;have hi:Ky n1 false i=i:=by unfold Ky;rw[aso (by simp)]
  rw[hi] at sp;rw[hi];have bg:i<d.aD.length:=Y;obtain⟨r,et⟩:∃r,d.aD[i]? =some r:=⟨_,asw bg⟩;have cI:=jm et;obtain⟨ck,hQ,hP⟩:=R.v.rO bg;obtain⟨tE,gq,ec,eb⟩:=R.work (hd:=a6) bg (Dv.ok i);have ef:=R.sum i;have JU:=Dv.ok i;have nh:=BF ck JU;have bT:=R.v.an (cl:=cl) (hs:=hs) (r:=i);have QW:=sZ (d:=d) R.QW R.JU i;obtain⟨rf,ay⟩:∃t,t=aV (dg d cl hs i):=⟨_,U⟩;obtain⟨own,aa⟩:∃t,t=dg d cl hs i:=⟨_,U⟩;subst fU;have hV:=lu.lt;have lp:=sp.an;refine dQ (args:=[iv (i:Int),aB P np cp]) lu U rfl hF' j1<|tN lu λu1 k1 z1 l1=>?_;have ku1:aj (λb=>b≠bh/\b≠ba/\b≠bm/\b≠w10.heap.size+1) be u1:=ku.ag k1 λb _ h=>h.2.2.2;have nL:=ku1.size;have q3:=B3.ah ku1 ⟨Y,Y,Y,Y⟩;have q4:=B4.ah ku1 ⟨Y,Y,Y,Y⟩;have q6:=B6.ah ku1 ⟨Y,Y,Y,Y⟩;have q9:=B9.ah ku1 ⟨Y,Y,Y,Y⟩;have V:=B10.ah ku1 ⟨Y,Y,Y,Y⟩;have qs:=Bs.ah ku1 ⟨Y,Y,Y,Y⟩;have qr:=j8.ah ku1 λb _ h=>⟨Y,Y,Y,Y⟩;have ql:=kl.ah ku1 λb _ h=>⟨Y,Y,Y,Y⟩;have eg:=sp.ah k1 λb hb h=>Y;have dp:=df.ah k1 Y;have dy:=dx.ah k1 Y;have dd:=cT.ah k1 Y;refine ld (aB A n c) (q4.ai U)<|ld (aB (aL bs) n1 n1) (q9.ai U)<|aJ (ED (D:=λ_=>True) (eg.ar Yd λ_ _ _=>Yt) (ql.ar Yd λ_ _ _=>Yt) (we (D:=λ_=>True) qs (by rw[R.lh];omega) R.JU Y Yt) (by rw[<-lp,<-jy (cl:=cl) (hs:=hs)];exact bT) (λp hp=>?_) R.QW R.JU) ?_
  .rcases eU.1 hp with h|h
   .exact⟨λ_=>by have:=R.lc;omega,λe=>(by rw[h.1] at e;cases e)⟩
   .exact⟨λe=>(by rw[h.1] at e;cases e),λ_=>Y⟩
  rintro _ u2 ⟨A',c',rfl,o2⟩;have x12:=o2.ae;have eT:aV ((fF d (i:Int)).map (rN cl hs))=rf:=ay.symm;rw[eT];rw[show(fF d (i:Int)).map (rN cl hs)=own from aa.symm] at o2;rw[<-aa] at tE eb bT QW;rw[<-ay] at ef;have j3:rf=aV own:=by rw[aa];exact ay
  have ct:=Mr QW;have nl:own.length=np:=by rw[aa,jy];exact lp
  have hG:bS cO (λb=>u1.heap.size<=b) u2 A' np own:=o2.ints ct Y λ_ h=>h;have q3:=q3.ae x12;have q6:=q6.ae x12;have V:=V.ae x12;have qr:=qr.ae x12;have hC:=eg.ae x12;have gi:=dp.ae x12;have nc:=dy.ae x12;have lG:=dd.ae x12;have l2:=l1.ah x12 Yt;have ku2:aj (λb=>b≠bh/\b≠ba/\b≠bm/\b≠w10.heap.size+1) be u2:=ku1.ag x12 λ_ _ _=>Yt;have nz:=x12.size;have ns:bL a6 i=bL a6 i:=U;obtain⟨hv,cK⟩:∃hv,hv=bL a6 i:=⟨_,U⟩;have kW:a6[i]? =some hv:=by have hl:=Dv.lh;have:i<a6.length:=Y;rw[asw this,cK,cY (asw this)]
  have hI:bS cO (λb=>b=bh) u2 (aL bh) n1 a6:=we gi (by have:=Dv.lh;omega) Dv.oh Y U;obtain⟨bx,ox,r8,j2,cL,fh,-,-,l0,rfl,-⟩:=hI.au (k:=i) Y;injection cL with cL;injection cL with j0 ib;subst j0;subst ib;obtain rfl:hv=j2:=by rw[kW] at fh;injection fh
  obtain⟨br,hT,rp,r',rfl,eS,-,-,l3,rfl⟩:=qr.au (k:=i) Y;obtain rfl:r=r':=by rw[et] at eS;injection eS
  rw[cI] at ck hQ hP nh;refine bR (oP [10] [] [0,1,2,3,4,5,6,7,8,9,10,11,12,13,14,15]) [] (λz=>ax u2 z) mx Z (.refl _ _)<|bC<|fu (aB (some (ad br hT)) n1 c1) (q3.ai U) Yt (.refl _ _)<|idx i U Y<|tM r.c l3 U Yt (.refl _ _)<|bC<|fu (aB (aL bh) n1 n1) (q6.ai U) Yt (.refl _ _)<|idx i U Y<|fu (iv hv) (l0 0 _ U) Yt (.refl _ _)<|bW (Qe (r:=r) (v:=hv)) λu3 x3'=>?_;have eL:uH r hv=0:=sV.2 ⟨ck,Y,Y⟩;rw[eL,asp U];refine bN x3'<|lit [iv rf] λgg u4 fa=>?_;have cg:ax u2 u4:=x3'.trans fa.ae;refine aJ (H7 (n:=hv-(gM r hv).hi) (l:=[rf]) (m:=1) (D:=λ_=>True) (bS.jw U Yd Yt (.aS fa.aS) (fX λx hx=>by rw[asP] at hx;rw[hx];unfold jt;omega))) ?_;rintro _ u5 ⟨rfl,rfl⟩;obtain⟨wk,cw⟩:∃wk,wk=ji d cl hs a6 i:=⟨_,U⟩;have lB:List.foldl min (hv-(gM r hv).hi) [rf]=wk:=by rw[cw];unfold ji;rw[<-ay,cI,<-cK];rfl
  rw[lB];rw[<-cw] at tE gq ec eb;rw[cI,<-cK] at ec;have eh:=hG.ae cg;have z24:=cg.size;refine aJ (Ey (E:=wk) (l:=own) eh tE) ?_;rintro _ u6 ⟨m,rS,oO,rL,hmk,rfl,hN,qL,x46,oS⟩;have a8:=cg.trans x46;have z46:=x46.size;have q3:=q3.ae a8;have q6:=q6.ae a8;have V:=V.ae a8;have qr:=qr.ae a8;have h9:=hC.ae a8;have lN:=gi.ae a8;have mo:=nc.ae a8;have lC:=lG.ae a8;have l6:=l2.ah a8 Yt;have hZ:=ku2.ag a8 λ_ _ _=>Yt;have hF:=eh.ae x46;have qn:=Dv.lm;have Dk:=Dv.mark bg (m:=m) (by rw[<-cw,<-aa];exact hmk);refine bR (oP [5,10] [10] [0,1,2,3,4,5,6,7,8,9,10]) [10] (λz=>ax u6 z) mx Z (.refl _ _)<|bC<|fu (aB (aL bm) n1 n1) (q6.ai U) Yt (.refl _ _)<|aJ (Kw (E:=wk) (l:=own) hF (by unfold jt;omega)) ?_;rintro _ u7 ⟨J,m',rfl,fe⟩;obtain rfl:m=m':=hmk.uniq fe;refine bN J<|idx i U Y<|gv (λ_=>True) Yt<|jR (vs:=kQ m) (lC.ae J) U (by rw[Ms];show _+4<=_;omega) Ys λu8 db k8' o3=>bN Yt ?_;have db:aP u8 bm 134 (uN (mk.set i m)):=by rw[<-Vc (by omega:i<mk.length)];have:=db;simpa using this
  have z67:=J.size;have q3:=(q3.ae J).ah k8' Y;have q6:=(q6.ae J).ah k8' Y;have V:=(V.ae J).ah k8' Y;have qr:=(qr.ae J).ah k8' λb _ h=>Y;have gw:=(h9.ae J).ah k8' λb _ h=>Y;have lI:=(lN.ae J).ah k8' Y;have lS:=(mo.ae J).ah k8' Y;have l8:=(l6.ah J Yt).ah k8' Y;have hM:=(hN.ae J).ah k8' λb _ h=>Y;have en:aj (λb=>b≠bh/\b≠ba/\b≠bm/\b≠w10.heap.size+1) be u8:=(hZ.ag J λ_ _ _=>Yt).ag k8' λb _ h=>h.2.2.1;have nR:=en.size;have nw:u6.heap.size<=u8.heap.size:=Y;refine an<|aM (λj:Nat=>[(108,iv (j:Int))]) (λj z=>j<=np/\∃bA bE,zp d cl hs E bA bE (mk.set i m) i j m/\aP z bh 3 (cJ bA)/\aP z ba 3 (cJ bE)/\aj (λb=>b≠bh/\b≠ba) u8 z) (λj _=>np-j) 0 ⟨U,Yt⟩ ⟨Y,a6,aw,Dk,lI,lS,.refl _ _⟩ U ?_;rintro G9 j z ⟨hj,bA,bE,DK,ak,aq,kz⟩;have q3:=q3.ah kz Y;have q6:=q6.ah kz Y;have V:=V.ah kz Y;have qr:=qr.ah kz λb _ h=>Y;have gr:=gw.ah kz λb _ h=>Y;have hL:=hM.ah kz λb _ h=>Y;have lz:=l8.ah kz Y;have gd:=db.ah kz Y;have zz:=kz.size;refine cD (λhlt=>?_) λhge=>?_
  .have hlt:j<np:=Y;obtain⟨bp,op,rI,p,rfl,hp,-,-,fi,rfl⟩:=gr.au hlt;obtain⟨av,fs⟩:∃av,av=dC m (bL own j) j:=⟨_,U⟩;refine idx j U hlt<|fj (Gv p) fi U<|alloc λnf z1 i1=>?_;have y1:=i1.au;have r1:=i1.size;refine fg i1.aS λz2 bk k2 ow=>?_;have bk:aP z2 nf 270 (Gv p):=bk;have a7:ax z z2:=i1.ae.ag k2 λb hb _ e=>Y;have nt:=a7.size;have q3:=q3.ae a7;have q6:=q6.ae a7;have V:=V.ae a7;have qr:=qr.ae a7;have ak:=ak.ae a7;have aq:=aq.ae a7;obtain⟨rR,oy,r7,ng,rfl,kG,-,-,c8,rfl,-⟩:=(hL.ae a7).au (k:=j) Y;obtain rfl:av=ng:=by have:=abu (m:=m) (l:=own) (i:=j) Y;rw[kG] at this;injection this with this;rw[fs,this]
   have qq:=DK.b.la;have qB:=DK.b.lh;have ej:=ak.lt;have ei:=aq.lt;obtain⟨pf,f⟩:=p;have ga:av=dC m (bL (dg d cl hs i) j) j:=by rw[fs,aa]
   cases pf with
   |true=>
    have hfl:f<d.aR.length:=by
     rcases eU.1 (asq hp) with h|h
     .exact h.2.1
     .cases h.1
    have bG:=DK.aO R bg hp;rw[<-ga] at bG;refine bC<|ld (.bool true) (bk.ai U)<|bR (oP [9] [9] [0,1,2,3,4,5,6,7,8,9]) [9] (λy=>y=z2) mx Z U<|bC<|ld (aB (aL ba) n2 n2) (q6.ai U)<|bC<|ld (iv (f:Int)) (bk.ai U)<|idx j U Y<|ld (iv av) (c8 0 _ U)<|idx f U Y<|gv (λ_=>True) Yt<|st (v:=iv av) aq (by simp;omega) U λz3 nb k3 ou=>bN Yt<|eD Y<|next (j+1) ⟨Yn,Yt⟩ ⟨Y,bA,_,bG,ak.ah k3 Y,?_,(kz.ag a7 λ_ _ _=>Yt).ag k3 λb _ h=>h.2⟩ Y;rw[<-ij];simpa using nb
   |false=>
    have hfl:=R.v.child (asq hp);have bG:=DK.child R bg hp;rw[<-ga] at bG;refine bC<|ld (.bool false) (bk.ai U)<|bR (oP [7] [7] [0,1,2,3,4,5,6,7]) [7] (λy=>y=z2) mx Z U<|ld (.func (.func 124) #[] #[ptr b3,ptr b6]) (V.ai U)<|bC<|ld (iv (f:Int)) (bk.ai U)<|idx j U Y<|ld (iv av) (c8 0 _ U)<|gv (λ_=>True) Yt<|aJ (Ii (r:=f) qr q3 q6 ak Y (by omega:f<n1) Y) ?_;rintro _ z3 ⟨rfl,lO,k3⟩;refine bN Yt<|eD Y<|next (j+1) ⟨Yn,Yt⟩ ⟨Y,_,bE,bG,lO,aq.ah k3 Y,(kz.ag a7 λ_ _ _=>Yt).ag k3 λb _ h=>h.1⟩ Y
  .have DD:=DK.done Y;refine eQ _ lz λz1 bI hW=>?_;have ej:=ak.lt;have ei:=aq.lt;have nm:=gd.lt;refine .inl ⟨U,⟨bA,bE,_,DD,ak.ah bI Y,aq.ah bI Y,gd.ah bI Y,hW⟩,(en.ag kz λb _ h=>⟨h.1,h.2.1⟩).ag bI λb _ h=>h.2.2.2⟩
 .rintro _ u (⟨⟨a6,aw,mk,Dv,df,dx,cT,lu⟩,ku⟩|h)
  .subst fU;rw[<-lr] at Dv;have DV:=Dv.all;refine dL _ lu (by simp) λu1 k1=>?_;have hV:=lu.lt;have ku1:aj (λb=>b≠bh/\b≠ba/\b≠bm/\b≠w10.heap.size+1) be u1:=ku.ag k1 λb _ h=>h.2.2.2;have q6:=B6.ah ku1 ⟨Y,Y,Y,Y⟩;have dp:=df.ah k1 Y;have dy:=dx.ah k1 Y;have dd:=cT.ah k1 Y;have nr:=q6.lt;refine fj [aB (aL bh) n1 n1,aB (aL ba) n2 n2,aB (aL bm) n1 n1] (.aS q6) U<|jR (vs:=[aB (aL bh) n1 n1,aB (aL ba) n2 n2,aB (aL bm) n1 n1]) q6 U Yl Ys λu2 cr k2 z2=>?_;have cr:aP u2 b6 140 [aB (aL bh) n1 n1,aB (aL ba) n2 n2,aB (aL bm) n1 n1]:=cr;have oj:=x05.size;have oi:=dO.size;have ni:=ku1.size;have lq:u2.heap[w10.heap.size]? =some (.deferred (some [])):=((k2.aS _ Y Y).trans (ku1.aS _ Y ⟨Y,Y,Y,Y⟩)).trans fW;refine oN lq ?_;have k3:=aj.putObj u2 w10.heap.size (.deferred none);refine da _ (bU (bF.aS (cr.ah k3 Y)) U) ?_;have xF:ax w (u2.putObj w10.heap.size (.deferred none)):=((gn.ag ku1 λb hb _=>⟨Y,Y,Y,Y⟩).ag k2 λb hb _=>Y).ag k3 λb hb _=>Y;refine⟨xF,.inr ⟨eo,hs,a6,aw,mk,bh,ba,bm,hne,R,DV,Dv.oh,Dv.oa,by rw[lr,lf];rfl,(dp.ah k2 Y).ah k3 Y,(dy.ah k2 Y).ah k3 Y,(dd.ah k2 Y).ah k3 Y,Y,Y,Y⟩⟩
  .exact h.elim
end
def aqz(who:Int)(i:Nat):Int:=bits .and .u64 (who.fdiv (2 ^ (min (i:Int).toNat IntKind.u64.bits))) 1
def ix(who:Int)(k:Nat):List Nat:=(List.range k).filter λi=>decide (aqz who i=1)
def dj(A B:bZ):Prop:=∀g,A=some (ad g 0)->B≠some (ad g 0)
structure aqA (w w':World) (d:aU) (cl:aX) (E:Int) (H G M:bZ) (nh ng nm:Nat):Prop where
 er:mP d cl E≠0->(H=none/\nh=0)/\(G=none/\ng=0)/\(M=none/\nm=0)
 ok:mP d cl E=0->nh=d.aD.length/\ng=d.aR.length/\nm=d.aD.length/\∃hs hd aw mk bh ba bm,dT d cl=some hs/\DO d cl hs/\oQ d cl hs E hd aw mk/\vY hd/\vY aw/\H=some (ad bh 0)/\G=some (ad ba 0)/\M=some (ad bm 0)/\
  aP w' bh 3 (cJ hd)/\aP w' ba 3 (cJ aw)/\aP w' bm 134 (uN mk)/\w.heap.size<=bh/\w.heap.size<=ba/\w.heap.size<=bm
theorem Ij{E:Int}:mP d cl E=0↔iM d cl=0/\0<=E/\E<=1099511627776:=by
 unfold mP;by_cases h:iM d cl=0
 .exact Yg
 .rw[asp h];simp[h]
section
variable {D:Nat->Prop} {w:World}
theorem KC{u:aW}{c:Nat}{E:Int}(hd:iG D w u d)(Z:bS cO D w A n cl):aK prog 41 #[.agg u.toArray,aB A n c,iv E] w (λv z=>∃H X ch G Y cg M W cm,v=.tuple #[.agg #[aB H X ch,aB G Y cg,aB M W cm],iv (mP d cl E)]/\ax w z/\aqA w z d cl E H G M X Y W):=
 (Oc hd Z).mono (by
  rintro v z ⟨x,⟨h,rfl⟩|⟨h,hs,J,aw,mk,bh,ba,bm,h1,h2,h3,h4,h5,rfl,h6,h7,h8,h9,V,O⟩⟩
  .exact⟨_,_,_,_,_,_,_,_,_,rfl,x,⟨λ_=>⟨⟨rfl,rfl⟩,⟨rfl,rfl⟩,rfl,rfl⟩,λq=>absurd q h⟩⟩
  .exact⟨_,_,_,_,_,_,_,_,_,by rw[h],x,⟨λq=>absurd h q,λ_=>⟨rfl,rfl,rfl,hs,J,aw,mk,bh,ba,bm,h1,h2,h3,h4,h5,rfl,rfl,rfl,h6,h7,h8,h9,V,O⟩⟩⟩)
end
theorem aqB(h:aP w b t (uN l))(hi:i<l.length):bF w b (0+i*4) (kQ (DN l i)):=λk v u=>by
 have e:DN l i=l[i]:=by unfold DN;rw[asC,asw hi];rfl
 rw[e] at u;have hk:=(asr.1 u).1;apply h.ai;rw[as9];have hd:(uN l).drop (i*4)=kQ l[i]++uN (l.drop (i+1)):=by rw[BQ,atB hi];rfl
 have:(uN l)[i*4+k]? =((uN l).drop (i*4))[k]? :=Yg;rw[this,hd,asR hk];exact u
structure XB where
 dq:Int
 to:Int
 aC:Int
 lo:Int
 hi:Int
abbrev XB.c(x:XB):aW:=[iv x.dq,iv x.to,iv x.aC,iv x.lo,iv x.hi]
section
open Go.Sort Go.Shelf Classical
theorem Rc(s:List (Cm)):(s.flatMap bM).length=s.length*5:=by
 induction s with
 |nil=>rfl
 |cons a s u=>rw[ata,asu,u];show 5+s.length*5=(s.length+1)*5;omega
theorem Mt:∀{s:List (Cm)} {j:Nat} {x:Cm} (m:Nat),s[j]? =some x->m<5->(s.flatMap bM)[j*5+m]? =(bM x)[m]?
 |[],j,x,m,h,_=>by simp at h
 |a::s,0,x,m,h,hm=>by
  simp at h;subst h
  rw[ata,avW,as9,asR (by show m<5;exact hm)]
 |a::s,j+1,x,m,h,hm=>by
  rw[ata,asY (by show 5<=_;omega),show(j+1)*5+m-(bM a).length=j*5+m from by show(j+1)*5+m-5=_;omega]
  exact Mt m (by simpa using h) hm
def tf(x y:Ti):Prop:=x.1<y.1\/x.1=y.1/\(x.2.1<y.2.1\/x.2.1=y.2.1/\(x.2.2.1<y.2.2.1\/x.2.2.1=y.2.2.1/\x.2.2.2<y.2.2.2))
theorem zX{x y:Ti}:NN x y<0↔tf x y:=by
 unfold NN cx tf;(repeat' split)<;>omega
instance (x y:Ti):Decidable (tf x y):=decidable_of_iff _ zX
theorem Oe{x y k:Ti}(h:tf x y)(h':tf y k):tf x k:=by unfold tf at*;omega
theorem Re{W:World}{q:Nat}{os:Array Obj}:ax (z W) (z (grow (W.drewN q) os)):=by
 refine⟨U,U,U,?_,λi hi _=>?_⟩
 .show W.heap.size<=(W.heap++os).size;simp
 .show(W.heap++os)[i]? =W.heap[i]?;rw[atZ (by simpa using hi)]
abbrev kv4(t:Ti):Value:=.agg #[.int .i64 t.1,.int .i64 t.2.1,.int .i64 t.2.2.1,.int .i64 t.2.2.2]
end
end Go.Proofs.YtakcjkbnfegidaaGreat
