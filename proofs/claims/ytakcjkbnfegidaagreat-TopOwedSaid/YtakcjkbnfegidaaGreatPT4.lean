/- Part. -/
import Derived.Test.YtakcjkbnfegidaaGreatPT3
set_option linter.all false
namespace Go.Proofs.YtakcjkbnfegidaaGreat
open Go Go.RowKit Tryz
variable{l s:List (Int×Int)}{g i k n q:Nat}{m x y:Int×Int}{w w0:World}{t:TypeId}{D:Nat->Prop}{E L a c e hi lo r:Int}{ms:Array (String×TypeId)}{A:bZ}{p:Int->Bool}{d:aU}{v:Value}
def Qu:Ty (Int×Int):=JS 2 fK λ_=>rfl
abbrev cls(s:List (Int×Int)):aW:=s.flatMap fK
theorem ja(s:List (Int×Int)):(cls s).length=s.length*2:=BA s
theorem zT(a b:List (Int×Int)):cls (a++b)=cls a++cls b:=as7 ..
theorem HP{D:Nat->Prop}{w:World}:∀{s:List (Int×Int)},dW Qu D w s (cls s)
 |[]=>rfl
 |x::s=>⟨fK x,cls s,rfl,rfl,HP⟩
theorem vP(l:List (Int×Int))(i:Nat)(rest:aW)(h:i<=l.length):(cls l++rest).take (i*2)=cls (l.take i):=by
 have e:cls l++rest=cls (l.take i)++(cls (l.drop i)++rest):=by rw[<-as5,<-zT,atk]
 rw[e,avd (by rw[ja,asF];omega),asx (by rw[ja,asF];omega)]
theorem Qv(l:List (Int×Int))(i:Nat)(rest:aW)(h:i<=l.length):(cls l++rest).drop (i*2)=cls (l.drop i)++rest:=by
 have e:cls l++rest=cls (l.take i)++(cls (l.drop i)++rest):=by rw[<-as5,<-zT,atk]
 have u:(cls (l.take i)).length=i*2:=by rw[ja,asF];omega
 rw[e,<-u,List.drop_left]
theorem F6{rest:aW}(h:i<l.length):(cls l++rest).take (i*2)++fK m++(cls l++rest).drop (i*2+2)=cls (l.set i m)++rest:=by
 rw[vP _ _ _ Y,show i*2+2=(i+1)*2 from Y,Qv _ _ _ Y,auW,asp h,zT,show cls (m::l.drop (i+1))=fK m++cls (l.drop (i+1)) from U];simp only[as5]
theorem pt{rest:aW}{j:Nat}(z:aP w g t (cls l++rest))(hm:l[j]? =some m):bF w g (0+j*2) (fK m):=λk v u=>by
 have hk:k<2:=(asr.1 u).1;have A:=(asr.1 hm).1;rw[as9];apply z.ai;rw[asR (by rw[ja];omega),FZ k hm hk];exact u
theorem F7{cs:aW}(A:aP w g t cs)(h:cs.take (n*2)=cls l)(z:n=l.length)(hle:n<=140737488355328)(J:D g):bS Qu D w (aL g) n l:=
 bS.jw z hle J (λj v u=>by
  rw[as9]
  rw[<-h,aty] at u
  split at u
  .exact A.ai u
  .cases u) HP
def mf(L:Int)(x:Int×Int):Bool:=decide (L<=x.1-x.1/2)
section
variable {D:Nat->Prop} {w:World}
theorem Ml{bl:Nat}(hm:0<=m.1/\m.1<=1073741824)(z:aP w bl t [iv L]):aA 120 #[.agg (fK m).toArray,ptr bl] w (.bool (!mf L m)):=by
 apply aF func120 Z;refine box λg A h1=>?_;refine go ?_;refine ld _ (h1.aS.ai U) ?_;refine go ?_;refine ld _ (h1.aS.ai U) ?_;refine vL Y Y Y ?_;refine go ?_;refine ld _ ((z.ae h1.ae).ai U) ?_;refine cD (λq=>?_) λq=>?_
 .exact aQ _ U ⟨by unfold mf;rw[asG Y];rfl,h1.ae⟩
 .exact aQ _ U ⟨by unfold mf;rw[asE Y];rfl,h1.ae⟩
theorem abl{ms:List (Int×Int)}{c bl:Nat}(h:bS Qu D w A n ms)(J:∀m∈ms,0<=m.1/\m.1<=1073741824)(hb:aP w bl t [iv L]):aK prog 208 #[aB A n c,.func (.func 120) #[] #[ptr bl]] w (λv w'=>((v=iv (-1)/\ms.filter (mf L)=ms)\/∃k:Nat,v=iv (k:Int)/\k<n/\(ms.take (k+1)).filter (mf L)=ms.take k)/\ax w w'):=by
 refine aF func208 Z<|an<|aM (λk:Nat=>[(8,iv (k:Int))]) (λk w'=>k<=n/\ax w w'/\(ms.take k).filter (mf L)=ms.take k) (λk _=>n-k) 0 ⟨U,Yt⟩ ⟨Y,.refl _ _,U⟩ U ?_;rintro G k w' ⟨hk,xw,he⟩;refine cD (λhlt=>?_) λhge=>?_
 .obtain⟨b,o,cs,m,rfl,hx,-,-,hc,rfl⟩:=(h.ae xw).au (show k<n from Y);refine go ?_;have htk:ms.take (k+1)=ms.take k++[m]:=by rw[asD,hx];rfl
  refine dt (Ml (m:=m) (J m (asq hx)) (hb.ae xw)) (λw2 g x2=>?_) λw2 g x2=>?_
  .exact Uh
  .simp only[atb] at g;refine eD (by have:=h.le;omega)<|next (k+1) ⟨Yn,Yt⟩ ⟨Y,xw.trans x2,?_⟩ Y;exact Uk
 .refine aQ _ U ⟨.inl ⟨U,?_⟩,xw⟩;rw[asx (by have:=h.an;omega)] at he;exact he
theorem abm{ms:List (Int×Int)}{rest:aW}{c bl:Nat}(hb0:aP w g 248 (cls ms++rest))(hbl:(cls ms++rest).length=c*2)(hn:n=ms.length)(hle:n<=1000000)(J:∀m∈ms,0<=m.1/\m.1<=1073741824)(hB:aP w bl t [iv L])(hne:bl≠g):aK prog 119 #[aB (aL g) n c,.func (.func 120) #[] #[ptr bl]] w (λv w'=>aj (λb=>b≠g) w w'/\∃A' n' c',v=aB A' n' c'/\bS Qu (λb=>b=g) w' A' n' (ms.filter (mf L))/\n'<=c'):=by
 have hnc:n<=c:=by rw[asu,ja] at hbl;omega
 have hs:bS Qu (λb=>b=g) w (aL g) n ms:=F7 hb0 (by rw[hn,vP _ _ _ (asN _),auh]) hn Y U;apply aF func119 Z;refine aJ (abl hs J hB) ?_;rintro _ w1 ⟨⟨rfl,hno⟩|⟨k,rfl,hkn,hk⟩,x1⟩
 .refine cE (λ_=>?_) λe=>absurd U e;refine aQ (aB (aL g) n c) U ⟨x1.any,aL g,n,c,U,?_,hnc⟩;rw[hno];exact hs.ae x1
 refine cE (λe=>Y) λ_=>?_;refine go ?_;have hgl:=hb0.lt;refine HC (λ(j i:Nat) (_:Unit)=>[(6,iv (j:Int)),(5,iv (i:Int))]) (λj i _ w'=>i<j/\j<=n/\aj (λb=>b≠g) w1 w'/\∃cur:List (Int×Int),cur.length=n/\aP w' g 248 (cls cur++rest)/\cur.take i=(ms.take j).filter (mf L)/\cur.drop j=ms.drop j) (λj _ _ _=>n-j) (k+1) k () ⟨Yn,U,Yt⟩ ⟨Y,Y,.refl _ _,ms,Y,hb0.ae x1,hk.symm,U⟩ U ?_;rintro G j i _ w2 ⟨a7,a6,k2,cur,hcl,hb2,hc1,hc2⟩;have hcsl:(cls cur++rest).length=c*2:=by rw[asu,ja,hcl,<-hbl,asu,ja,hn]
 refine an ?_;refine cD (λhlt=>?_) λhge=>?_
 .refine Xa ?_;intro hlt m hm hcm htk;refine fj _ (pt hb2 hcm) U ?_;refine ao5 ?_;intro t v1' h1'' w3 tb s2 zs t1 hgl2 x23 htg;have V:=((hB.ae x1).ah k2 hne).ae x23;refine go ?_;refine dt (Ml (m:=m) (J m (asq hm)) V) (λw4 q x4=>?_) λw4 q x4=>?_
  .exact g_9
  .simp only[atb] at q;refine fj (fK m) (.aS (tb.ae x4)) U ?_;refine go ?_;refine jR ((hb2.ae x23).ae x4) U (by rw[hcsl];show _+2<=_;omega) Ys λw5 b5 s5 zs5=>?_;refine go ?_;have b5:aP w5 g 248 (cls (cur.set i m)++rest):=by rw[<-F6 Y];have:0+i*2=i*2:=Y;rw[this] at b5;exact b5
   refine yN (j+1) (i+1) () ⟨Yn,Yn,Yt⟩ ⟨Y,Y,((k2.ae x23).ae x4).trans s5,cur.set i m,?_,b5,?_,?_⟩ Y
   .rw[asU];exact hcl
   .rw[htk,atp,<-hc1,auA q,asD,auq Y,av1 (asN _)];rfl
   .exact Ui
 .have hjn':j=n:=Y;have hfin:cur.take i=ms.filter (mf L):=by rw[hc1,hjn',asx Y]
  refine F5 i n U rfl Y Y Y<|clr hb2 Y (by rw[hcsl];omega) λw3 cs' hb3 ht hl k3=>?_;have hfl:(ms.filter (mf L)).length=i:=by rw[<-hfin,asF];omega
  have O:bS Qu (λb=>b=g) w3 (aL g) i (ms.filter (mf L)):=F7 hb3 (by
   have:cs'.take (i*2)=(cls cur++rest).take (i*2):=by rw[show i*2=0+i*2 from Y];exact ht
   rw[this,vP _ _ _ Y,hfin]) hfl.symm Y U
  refine F5 0 i U rfl Y Y Y<|aQ (aB (some (ad g (0+0*2))) (i-0) (c-0)) U ⟨((x1.any:aj (λb=>b≠g) w w1).trans k2).trans k3,_,_,_,U,O,Y⟩
theorem abn{ms:List (Int×Int)}{rest:aW}{c:Nat}(hb0:aP w g 248 (cls ms++rest))(hn:n=ms.length)(hle:n<=1000000):aK prog 118 #[aB (aL g) n c] w (λv w'=>v=.tuple #[]/\aP w' g 248 (cls ms.reverse++rest)/\aj (λb=>b≠g) w w'):=by
 apply aF func118 Z;refine go ?_;refine aM (λi:Nat=>[(2,iv (i:Int)),(3,iv ((n:Int)-1-i))]) (λi u=>i<=n/\aj (λb=>b≠g) w u/\∃cur:List (Int×Int),cur.length=n/\aP u g 248 (cls cur++rest)/\∀k,k<n->cur[k]? =if k<i\/n<=k+i then ms[n-1-k]? else ms[k]?) (λi _=>n-i) 0 ⟨U,congrArg (Value.int .i64) Y,Yt⟩ ⟨Y,.refl _ _,ms,hn.symm,hb0,λk hk=>by rw[aso Y]⟩ U ?_;rintro G i u ⟨hi,ku,cur,hcl,O,J⟩;refine cD (λhlt=>?_) λhge=>?_
 .obtain⟨j,hj⟩:∃j:Nat,(n:Int)-1-i=j:=⟨((n:Int)-1-i).toNat,Y⟩;rw[hj] at hlt|-;obtain⟨a,ha⟩:∃a,cur[i]? =some a:=⟨cur[i]'Y,asw Y⟩;obtain⟨b,hb⟩:∃b,cur[j]? =some b:=⟨cur[j]'Y,asw Y⟩;have hcsl:(cls cur++rest).length=n*2+rest.length:=by rw[asu,ja,hcl]
  refine bR (oP [13,15] [13] [0,1,2,3,4,5,6,7,8,9,10,11,12,13,14,15]) [13,14,15] (λz=>z=u) mx Z U ?_;refine go ?_;refine fj _ (pt O hb) U ?_;refine go ?_;refine fj _ (pt O ha) U ?_;refine go ?_;refine gv (λ_=>True) Yt ?_;refine jR O U (by rw[hcsl];show _+2<=_;omega) Ys λu1 b1 k1 s1=>?_;have b1:aP u1 g 248 (cls (cur.set i b)++rest):=by rw[<-F6 Y];have:0+i*2=i*2:=Y;rw[this] at b1;exact b1
  refine go ?_;refine jR b1 U (by rw[asu,ja,asU,hcl];show _+2<=_;omega) Ys λu2 b2 k2 s2=>?_;have b2:aP u2 g 248 (cls ((cur.set i b).set j a)++rest):=by rw[<-F6 (by rw[asU];omega)];have:0+j*2=j*2:=Y;rw[this] at b2;exact b2
  refine go ?_;refine next (i+1) ⟨Yn,congrArg (Value.int .i64) Y,Yt⟩ ⟨Y,(ku.trans k1).trans k2,(cur.set i b).set j a,by rw[asU,asU];exact hcl,b2,λk hk=>?_⟩ Y;have h1:=J i Y;have h2:=J j Y;rw[aso Y,ha] at h1;rw[aso Y,hb] at h2;rw[auc,auc,asU];by_cases e1:j=k
  .exact Yg
  .rw[aso e1];by_cases e2:i=k
   .subst e2;rw[asp U,asp Y,asp Y,show n-1-i=j from Y,<-h2]
   .rw[aso e2,J k hk];by_cases e3:k<i\/n<=k+i
    .rw[asp e3,asp Y]
    .rw[aso e3,aso Y]
 .have V:cur=ms.reverse:=by
   apply atG;intro k;by_cases hk:k<n
   .rw[J k hk,avO Y,<-hn];by_cases e:k<i\/n<=k+i
    .rw[asp e]
    .rw[aso e,show n-1-k=k from Y]
   .exact YO
  rw[V] at O;exact ret ⟨U,O,ku⟩
end
structure vQ (p:Int->Bool) (lo hi res:Int):Prop where
 le:lo<=res
 ge:res<=hi
 no:∀v,lo<=v->v<res->p v=false
 yes:res<hi->p res=true
structure tP (p:Int->Bool) (a b lo hi:Int):Prop where
 Qw:a<=lo
 Qx:lo<=hi
 NT:hi<=b
 no:∀v,a<=v->v<lo->p v=false
 yes:hi<b->p hi=true
theorem tP.bH{b:Int}(h:a<=b):tP p a b a b:=⟨asO _,h,asO _,λv h1 u=>Y,λh=>Y⟩
theorem tP.left{b m:Int}(h:tP p a b lo hi)(h1:lo<=m)(z:m<hi)(u:p m=true):tP p a b lo m:=⟨h.Qw,h1,by have:=h.NT;omega,h.no,λ_=>u⟩
theorem tP.right{p:Int->Bool}{a b lo hi m:Int}(hm:∀v v',a<=v->v<=v'->v'<=b->p v=true->p v'=true)(h:tP p a b lo hi)(h1:lo<=m)(O:m<hi)(z:p m=false):tP p a b (m+1) hi:=
 ⟨by have:=h.Qw;omega,Y,h.NT,λv M J=>(by
  cases u:p v with
  |false=>rfl
  |true=>rw[hm v m M Y (by have:=h.NT;omega) u] at z;cases z),h.yes⟩
theorem tP.done{b:Int}(h:tP p a b lo hi)(e:hi<=lo):vQ p a b lo:=by
 have:=h.Qx;obtain rfl:lo=hi:=Y;exact⟨h.Qw,h.NT,h.no,h.yes⟩
def JT(c:Int):Bool:=decide (0<=c/\c<=1073741824)
def jX(E:Int)(l:aX):Int:=if 664<l.length then 2 else if l.all JT&&decide (0<=E/\E<=l.sum) then 0 else 400
theorem sX{l:aX}(h:jX E l=0):l.length<=664/\(∀c∈l,0<=c/\c<=1073741824)/\0<=E/\E<=l.sum:=by
 unfold jX at h;by_cases h1:664<l.length
 .rw[asp h1] at h;cases h
 .rw[aso h1] at h;by_cases u:(l.all JT&&decide (0<=E/\E<=l.sum))=true
  .rw[asv,asy,asH] at u;exact⟨Y,λc z=>att (u.1 c z),u.2⟩
  .rw[aso u] at h;cases h
def aV(l:aX):Int:=l.sum
theorem fD{l:aX}:aV (l++[c])=aV l+c:=by unfold aV;rw[atS];simp
theorem jl:∀{l:aX},(∀c∈l,0<=c/\c<=1073741824)->0<=aV l/\aV l<=l.length*1073741824
 |[],_=>by unfold aV;simp
 |c::l,h=>by
  have h1:=jl (l:=l) λx u=>h x (ast _ u)
  have z:=h c ass
  have:aV (c::l)=c+aV l:=by unfold aV;rw[atu]
  rw[this,as2]
  omega
theorem Qy{l:aX}(h:l[k]? =some c):Dz (l.take (k+1))=Dz (l.take k)++[(c,(k:Int))]:=by
 have hk:=(asr.1 h).1;unfold Dz;exact aoc
theorem vR{l:aX}:(Dz l).length=l.length:=by unfold Dz;rw[asz,as3]
theorem Qz:zj (s++[x]) L=zj s L+min (x.1/2) L:=by unfold zj;rw[asK,atS];simp
theorem QB:uK (s++[x]) L=uK s L+max 0 (x.1-x.1/2-L):=by unfold uK;rw[asK,atS];simp
theorem Kv:me (s++[x])=me s+x.1/2:=by unfold me;rw[asK,atS];simp
def DJ(s:List (Int×Int)):Int:=s.foldl (λa x=>max a x.1) 0
theorem NU:DJ (s++[x])=max (DJ s) x.1:=by unfold DJ;rw[aud];rfl
abbrev DA(s:List (Int×Int)):Prop:=∀m∈s,0<=m.1/\m.1<=1073741824
theorem Mn{f:Int×Int->Int}:∀{s:List (Int×Int)},(∀m∈s,0<=f m/\f m<=1073741824)->0<=(s.map f).sum/\(s.map f).sum<=s.length*1073741824
 |[],_=>by simp
 |c::l,h=>by
  have h1:=Mn (s:=l) λx u=>h x (ast _ u)
  have z:=h c ass
  rw[asQ,atu,as2]
  omega
theorem Xv(h:DA s)(u:0<=L):0<=zj s L/\zj s L<=s.length*1073741824:=Mn λm hm=>by have:=h m hm;omega
theorem Xw(h:DA s)(u:0<=L):0<=uK s L/\uK s L<=s.length*1073741824:=Mn λm hm=>by have:=h m hm;omega
theorem Mo(h:DA s):0<=me s/\me s<=s.length*1073741824:=Mn λm hm=>by have:=h m hm;omega
theorem DA.take(h:DA s)(k:Nat):DA (s.take k):=λm hm=>h m (asW hm)
section
variable {D:Nat->Prop} {w:World}
theorem UR{l:aX}{c:Nat}(hl:bS cO D w A n l)(hE:jt E):aK prog 110 #[iv E,aB A n c] w (λv w'=>(jX E l≠0/\v=.tuple #[aY,iv (jX E l)]/\ax w w')\/(jX E l=0/\∃A' n' c',v=.tuple #[aB A' n' c',iv 0]/\bu w w' A' n' c' 248 2 (cls (Dz l))/\n'=l.length)):=by
 have l1:=hl.an;unfold jt at hE;apply aF func110 Z;apply an;refine cD (λg0=>?_) λg0=>?_
 .have e:jX E l=2:=by unfold jX;rw[asp Y]
  exact tK (aY) (iv 2) U rfl (.inl ⟨by rw[e];decide,by rw[e],.refl _ _⟩)
 have bad:(l.all JT&&decide (0<=E/\E<=l.sum))=false->jX E l=400:=λh=>by unfold jX;rw[aso Y,h];rfl
 apply an;apply aM (λs:Nat×bZ×Nat=>[(14,iv (s.1:Int)),(6,iv (aV (l.take s.1))),(4,aB s.2.1 s.1 s.2.2)]) (λs u=>s.1<=n/\bu w u s.2.1 s.1 s.2.2 248 2 (cls (Dz (l.take s.1)))/\∀c∈l.take s.1,0<=c/\c<=1073741824) (λs _=>n-s.1) (0,none,0) ⟨U,U,U,Yt⟩ ⟨Y,.nil (.refl _ _),λc hc=>by simp at hc⟩ U;rintro G ⟨k,B,V⟩ u ⟨hk,own,hall⟩;have O:=jl hall;rw[asF] at O;refine cD (λhlt=>?_) λhge=>?_
 .have hlt:k<n:=Y;obtain⟨b,o,cs,a,rfl,ha,-,-,hc,rfl,hi⟩:=(hl.ae own.ae).au hlt;unfold jt at hi;have htk:l.take (k+1)=l.take k++[a]:=by rw[asD,ha];rfl
  have no:¬(0<=a/\a<=1073741824)->∀K:Value->World->Prop,True->jX E l=400:=λh K _=>bad (by rw[avP];left;rw[atl];intro h2;exact h (att (asH.1 h2 a (asq ha))))
  apply idx k U hlt;refine go ?_;refine cD (λg1=>?_) λg1=>?_
  .have e:=no Y (λ_ _=>True) Yt;exact W5
  refine cD (λg2=>?_) λg2=>?_
  .have e:=no Y (λ_ _=>True) Yt;exact W5
  refine go ?_;refine hY [iv a,iv (k:Int)] Z ?_;refine lit [.agg #[iv a,iv (k:Int)]] λg u1 hq=>?_;refine iI (own.ag hq.ae) (hq.src (sz:=2) U) Y λA' c' u2 o2 _ _=>?_;refine go ?_;refine next (k+1,A',c') ⟨Yn,by rw[htk,fD];rfl,U,Yt⟩ ⟨Y,?_,λc hc=>?_⟩ (by simp only;omega)
  .rw[Qy ha,zT];exact o2
  .rw[htk,atf,asP] at hc;rcases hc with hc|rfl
   .exact hall c hc
   .omega
 .have hkn:k=n:=Y;subst hkn;rw[asx Y] at own hall O|-;have J:l.all JT=true:=asH.2 λc hc=>asE (hall c hc);have no:¬(0<=E/\E<=aV l)->jX E l=400:=λh=>bad (by rw[J,aui];exact asG h);refine cD (λg1=>?_) λg1=>?_
  .have e:=no Y;exact W5
  refine cD (λg2=>?_) λg2=>?_
  .have e:=no Y;exact W5
  refine tK (aB B k V) (iv 0) U rfl (.inr ⟨?_,B,k,V,U,own,Y⟩);unfold jX;rw[aso Y,J,aui,asp (asE ⟨Y,show E<=aV l from Y⟩)]
theorem HQ{fn:FuncId}{cap:Array Value}[he:Enters prog fn](h0:0<=lo/\lo<=hi/\hi<=1073741824)(hm:∀v v':Int,lo<=v->v<=v'->v'<=hi->p v=true->p v'=true)(hc:∀(v:Int) (z:World),lo<=v->v<hi->ax w z->aK prog fn ([iv v]++cap.toList).toArray z λu O=>u=.bool (p v)/\ax z O):aK prog 114 #[iv lo,iv hi,.func (.func fn) #[] cap] w (λv z=>∃k:Int,v=iv k/\vQ p lo hi k/\ax w z):=by
 apply aF func114 Z;apply HB (λ(a b:Int)=>[(0,iv a),(1,iv b)]) (λa b z=>tP p lo hi a b/\ax w z) (λa b _=>(b-a).toNat) lo hi ⟨U,U,Yt⟩ ⟨tP.bH h0.2.1,.refl _ _⟩ U;rintro G a b z ⟨h,J⟩;have h1:=h.Qw;have h2:=h.Qx;have h3:=h.NT;refine cD (λa1=>?_) λa6=>?_
 .refine go ?_;refine vL Y Y Y ?_;refine go ?_;obtain⟨m,W⟩:∃m,m=a+(b-a)/2:=⟨_,U⟩;rw[<-W];refine dt (hc m z Y Y J) (λX V M=>?_) λX V M=>?_
  .exact rr a m ⟨U,U,Yt⟩ ⟨h.left Y Y V,J.trans M⟩ Y
  .refine go ?_;exact rr (m+1) b ⟨U,U,Yt⟩ ⟨h.right hm Y Y V,J.trans M⟩ Y
 .exact aQ _ U ⟨a,U,h.done Y,J⟩
section
variable {s:List (Int×Int)} {A:Option Addr} {n c bl:Nat} {t:TypeId} {L:Int}
theorem F8(hs:bS Qu D w A n s)(hn:n<=664)(h0:DA s)(hb:aP w bl t [aB A n c])(O:0<=L/\L<=1073741824):aA 113 #[iv L,ptr bl] w (iv (zj s L)):=by
 apply aF func113 Z;refine go ?_;refine aM (λk:Nat=>[(3,iv (zj (s.take k) L)),(8,iv (k:Int))]) (λk u=>k<=n/\ax w u) (λk _=>n-k) 0 ⟨U,U,Yt⟩ ⟨Y,.refl _ _⟩ U ?_;rintro G k u ⟨hk,xu⟩;have J:=Xv (h0.take k) O.1;rw[asF] at J;refine cD (λhlt=>?_) λhge=>?_
 .have hlt:k<n:=Y;obtain⟨b,o,cs,m,rfl,hm,-,-,hc,rfl⟩:=(hs.ae xu).au hlt;refine adI ?_;intro htk hm0 q u1 a1;refine fg a1.aS λu2 b2 k2 z2=>?_;have ea:=a1.au;have x2:=a1.ae.ag k2 λb hb _ e=>Y;refine go ?_;refine vL Y Y Y ?_;refine go ?_;exact next (k+1) ⟨by rw[htk,Qz];rfl,Yn,Yt⟩ ⟨Y,xu.trans x2⟩ Y
 .have:=hs.an;exact aQ (iv (zj (s.take k) L)) U ⟨by rw[asx Y],xu⟩
theorem F9(hs:bS Qu D w A n s)(hn:n<=664)(h0:DA s)(hb:aP w bl t [aB A n c])(O:0<=L/\L<=1073741824):aA 116 #[iv L,ptr bl] w (iv (uK s L)):=by
 apply aF func116 Z;refine go ?_;refine aM (λk:Nat=>[(3,iv (uK (s.take k) L)),(8,iv (k:Int))]) (λk u=>k<=n/\ax w u) (λk _=>n-k) 0 ⟨U,U,Yt⟩ ⟨Y,.refl _ _⟩ U ?_;rintro G k u ⟨hk,xu⟩;have J:=Xw (h0.take k) O.1;rw[asF] at J;refine cD (λhlt=>?_) λhge=>?_
 .have hlt:k<n:=Y;obtain⟨b,o,cs,m,rfl,hm,-,-,hc,rfl⟩:=(hs.ae xu).au hlt;refine adI ?_;intro htk hm0 q u1 a1;refine fg a1.aS λu2 b2 k2 z2=>?_;have ea:=a1.au;have x2:=a1.ae.ag k2 λb hb _ e=>Y;refine go ?_;refine vL Y Y Y ?_;refine go ?_;exact next (k+1) ⟨by rw[htk,QB];rfl,Yn,Yt⟩ ⟨Y,xu.trans x2⟩ Y
 .have:=hs.an;exact aQ (iv (uK (s.take k) L)) U ⟨by rw[asx Y],xu⟩
theorem US{ba J:Nat}{V O:TypeId}(hs:bS Qu D w A n s)(hn:n<=664)(h0:DA s)(hb:aP w bl t [aB A n c])(hL:0<=L/\L<=1073741824)(ha:aP w ba O [.func (.func 113) #[] #[ptr bl]])(hE:aP w J V [iv E]):aA 115 #[iv L,ptr ba,ptr J] w (.bool (decide (E<=zj s L))):=by
 refine aF func115 Z<|P8 (λ_=>True) [0,1,3,2,4,5] [2] mx Z<|go<|bW (F8 hs hn h0 hb hL) λw2 x2=>?_;exact aoE
theorem UT{ba J:Nat}{V O:TypeId}(hs:bS Qu D w A n s)(hn:n<=664)(h0:DA s)(hb:aP w bl t [aB A n c])(hL:0<=L/\L<=1073741824)(ha:aP w ba O [.func (.func 116) #[] #[ptr bl]])(hE:aP w J V [iv E]):aA 117 #[iv L,ptr ba,ptr J] w (.bool (decide (uK s L<E))):=by
 refine aF func117 Z<|P8 (λ_=>True) [0,1,3,2,4,5] [2] mx Z<|go<|bW (F9 hs hn h0 hb hL) λw2 x2=>?_;exact aoE
end
end
abbrev kQ(m:Mk):aW:=[.bool m.late,iv m.level,iv m.gV,iv m.index]
def dX(E:Int)(l:aX)(m:Mk):Prop:=if jX E l=0/\E≠0 then m.Of l/\DH m l=E else m=Mk.none
theorem Gm{l:aX}:(Dz l).map (·.1)=l:=by
 apply at8
 .rw[asz,vR]
 .intro i h1 u;unfold Dz bL;simp[asC,asw u]
theorem NV{l:aX}:((Dz l).map (·.2)).Nodup:=by
 unfold Dz;rw[auo];show List.Pairwise _ _;rw[atN];exact List.nodup_range.imp λh e=>h (Int.ofNat.inj e)
section
variable {l:List Int} {s:List (Int×Int)} {E L:Int}
theorem NW(h:s.Perm (Dz l)):Qj s=aV l:=by
 unfold Qj aV;rw[rC h,Gm]
theorem DA.perm(h:s.Perm (Dz l))(z:∀c∈l,0<=c/\c<=1073741824):DA s:=λx u=>by
 apply z x.1;have:x.1∈(Dz l).map (·.1):=List.mem_map_of_mem (h.mem_iff.1 u);rwa [Gm] at this
theorem Gq:∀{s:List (Int×Int)} {a:Int},a<=s.foldl (λa x=>max a x.1) a/\∀x∈s,x.1<=s.foldl (λa x=>max a x.1) a
 |[],a=>⟨asO _,λx u=>by cases u⟩
 |y::s,a=>by
  have:=Gq (s:=s) (a:=max a y.1)
  refine⟨by rw[aul];omega,λx u=>?_⟩
  rw[aul]
  rcases asM.1 u with rfl|h
  .omega
  .exact this.2 x h
theorem QC:∀{s:List (Int×Int)} {a:Int},(∀x∈s,x.1<=1073741824)->a<=1073741824->s.foldl (λa x=>max a x.1) a<=1073741824
 |[],a,_,h=>h
 |y::s,a,h,z=>by
  have:=h y ass
  rw[aul]
  exact QC (λx u=>h x (ast _ u)) Y
theorem uL(h:DA s):0<=DJ s/\DJ s<=1073741824/\∀x∈s,x.1<=DJ s:=⟨Gq.1,QC (λx u=>(h x u).2) Y,Gq.2⟩
theorem Mp(h:DA s):zj s (DJ s)=me s:=du λx u=>by
 have:=h x u;have:=(uL h).2.2 x u;omega
theorem UU(h:DA s):uK s (DJ s)=0:=by
 refine Eq.trans (du (g:=λ_=>(0:Int)) λx u=>?_) (ki (s:=s));have:=h x u;have:=(uL h).2.2 x u;omega
theorem HS(h:DA s):zj s 0=0:=by
 refine Eq.trans (du (g:=λ_=>(0:Int)) λx u=>?_) (ki (s:=s));have:=h x u;omega
theorem QD(h:DA s):me s+uK s 0=Qj s:=by
 unfold me uK Qj;rw[<-iU];exact du λx u=>by have:=h x u;omega
theorem HT:uK (s.reverse.filter (mf L)) L=uK s L:=by
 have:=iV (p:=mf L) (f:=λx:Int×Int=>max 0 (x.1-x.1/2-L)) (λx u=>by unfold mf at u;rw[asZ] at u;omega) (s:=s.reverse);unfold uK;rw[<-this];exact rC (awm s)
end
theorem DA.mono{t:List (Int×Int)}(h:DA s)(hs:∀x∈t,x∈s):DA t:=λx u=>h x (hs x u)
section
variable {D:Nat->Prop} {w:World}
set_option maxRecDepth 4000 in
theorem Kw{E:Int}{l:aX}{A:bZ}{n c:Nat}(hl:bS cO D w A n l)(hE:jt E):aK prog 39 #[iv E,aB A n c] w (λv w'=>ax w w'/\∃m:Mk,v=.tuple #[.agg (kQ m).toArray,iv (jX E l)]/\dX E l m):=by
 apply aF func39 Z;refine box λb2 w1 h1=>?_;refine alloc λb4 w2 h2=>?_;have x2:=h1.ae.trans h2.ae;have e1:=h1.au;have e2:=h2.au;have s1:=h1.ae.size;have s2:=h2.ae.size;have B2:=h1.aS.ae h2.ae;have l1:=h1.aS.lt;have l2:=h2.aS.lt;have B4:=h2.aS;refine go ?_;refine aJ (UR (hl.ae x2) hE) ?_;rintro _ w3 (⟨he,rfl,x3⟩|⟨he,A1,n1,c1,rfl,own,cL⟩)
 .refine alloc λb6 w4 h4=>?_;refine st1 h4.aS U λw5 B6 k6=>?_;have e4:=h4.au;have x5:ax w2 w5:=(x3.trans h4.ae).ag k6 λb hb _ e=>by have:=x3.size;omega
  refine cN (λ_=>?_) λe=>absurd e he;refine fj (kQ Mk.none) (.aS (B4.ae x5)) U ?_;refine fg (B4.ae x5) λw6 c8 k7 z7=>?_;have aq:=c8;refine ret ?_;refine da _ (bU (bF.aS aq) U) ?_;exact⟨(x2.trans x5).ag k7 λb hb _ e=>Y,Mk.none,U,by unfold dX;rw[aso λh=>he h.1]⟩
 obtain⟨hlen,hcl,hG,eS⟩:=sX he;have hF:=hE.2;refine alloc λb6 w4 h4=>?_;refine st1 h4.aS U λw5 B6 k6=>?_;have e4:=h4.au;have x3:=own.ae;have s3:=x3.size;have ct:=h4.ae.ag k6 λb hb _ e=>Y;have x5:=x3.trans ct;refine cN (λh=>absurd U h) λ_=>?_;refine ld (iv E) ((B2.ae x5).ai U) ?_;refine cE (λhz=>?_) λhz=>?_
 .refine fj (kQ Mk.none) (.aS (B4.ae x5)) U ?_;refine fg (B4.ae x5) λw6 c8 k7 z7=>?_;have aq:aP w6 b4 134 (kQ Mk.none):=c8;refine ret ?_;refine da _ (bU (bF.aS aq) U) ?_;exact⟨(x2.trans x5).ag k7 λb hb _ e=>Y,Mk.none,by rw[he];rfl,by unfold dX;rw[aso λh=>h.2 hz]⟩
 have bk:=own.ag ct;rcases bk.form with⟨rfl,h0,-⟩|⟨g,rfl,gF,hg2,hc1⟩
 .exfalso;have:l=[]:=asL Y;subst this;have:(0:Int)=([]:aX).sum:=U;omega
 have gw:g<w3.heap.size:=by
  rcases own.form with⟨h,-⟩|⟨g',h,-,hh,-⟩
  .cases h
  .injection h with h;injection h with h;omega
 obtain⟨rest,Bg,hBl,-⟩:=bk.own.aS;refine go ?_;refine aJ (UO (s:=Dz l) Bg (by rw[vR];exact cL) (by rw[vR];omega) NV) ?_;rintro _ w6 ⟨rfl,s,hp,cK,Bs,ks⟩;have ak:s.length=n1:=by rw[hp.length_eq,vR];omega
 have h0:=DA.perm hp hcl;have cI:=uL h0;have et:=Mo h0;have hbl:(cls s++rest).length=c1*2:=by rw[<-hBl,asu,asu,ja,ja,ak,vR,cL]
 have x6:=x5.ag ks λb hb _ e=>Y;have bA:=B2.ae x6;have dp:=B4.ae x6;have a8:=B6.ah ks Y;have l6:=a8.lt;have bp:bS Qu (λ_=>True) w6 (aL g) n1 s:=F7 Bs (by rw[vP _ _ _ Y,asx Y]) ak.symm Y Yt;clear ks Bg bk own B6 k6 hl h1 h2 h4;refine go ?_;refine aM (λk:Nat=>[(38,iv (k:Int)),(8,iv (me (s.take k))),(9,iv (DJ (s.take k)))]) (λk u=>k<=n1/\ax w6 u) (λk _=>n1-k) 0 ⟨U,U,U,Yt⟩ ⟨Y,.refl _ _⟩ U ?_;rintro G k u ⟨hk,xu⟩;have eo:=Mo (h0.take k);rw[asF] at eo;refine cD (λhlt=>?_) λhge=>?_
 .have hlt:k<n1:=Y;obtain⟨b,o,cs,m,hA,hm,-,-,hc,rfl⟩:=(bp.ae xu).au hlt;injection hA with hA;injection hA with fa eT;subst fa;subst eT;refine adI ?_;intro htk hm0 q u1 a1;refine fg a1.aS λu2 df k2 z2=>?_;have ea:=a1.au;have xu2:=a1.ae.ag k2 λb hb _ e=>Y;refine Xf [0,1,2,3,4,5,6,7,8,9,10] [] mx Z ?_;refine bC ?_;refine Kg (iv m.1) (df.ai U) (.refl _ _) ?_;refine vL Y Y Y ?_;refine eD Y ?_;refine bC ?_;refine Kg (iv m.1) (df.ai U) (.refl _ _) ?_;refine go ?_;exact next (k+1) ⟨Yn,by rw[htk,Kv];rfl,by rw[htk,NU];rfl,Yt⟩ ⟨Y,xu.trans xu2⟩ Y
 have ep:s.take k=s:=asx Y;rw[ep];obtain⟨H,hH⟩:∃H,H=me s:=⟨_,U⟩;obtain⟨T,hT⟩:∃T,T=DJ s:=⟨_,U⟩;rw[<-hH,<-hT];rw[<-hH] at et;rw[<-hT] at cI;refine ld _ ((bA.ae xu).ai U)<|cD (λdd=>?_) λdd=>?_
 .have hC:1<=T:=by
   by_cases q:1<=T
   .exact q
   exfalso;have:=Mp h0;rw[<-hT,show T=0 from Y,HS h0,<-hH] at this;omega
  have su:=xu.size;refine alloc λfh w7 h7=>?_;refine st1 (v:=.func (.func 113) #[] #[ptr b6]) h7.aS U λw8 B12 k8=>?_;have e7:=h7.au;have aa:=(xu.trans h7.ae).ag k8 λb hb _ e=>Y;refine aJ (HQ (fn:=115) (cap:=#[ptr fh,ptr b2]) (p:=λv=>decide (E<=zj s v)) (lo:=1) (hi:=T) ⟨Y,Y,Y⟩ (λv v' h1 h2 h3 h=>by rw[asy] at h|-;have:=Qk (s:=s) h2;omega) λv w' en ej xw=>US (bp.ae (aa.trans xw)) Y h0 (a8.ae (aa.trans xw)) ⟨Y,Y⟩ (B12.ae xw) (bA.ae (aa.trans xw))) ?_;rintro _ w9 ⟨L,rfl,hL,x9⟩;have db:=hL.le;have ew:=hL.ge;have O:E<=zj s L:=by
   by_cases q:L<T
   .exact att (hL.yes q)
   .have:=Mp h0;rw[<-hT,<-hH] at this;rw[show L=T from Y,this];exact dd
  have br:zj s (L-1)<E:=by
   by_cases q:L=1
   .rw[q,show(1:Int)-1=0 from U,HS h0];omega
   .have:=avz (hL.no (L-1) Y Y);omega
  have bx:=Xv (L:=L-1) h0 Y;rw[ak] at bx;obtain⟨p,bw⟩:∃p:Nat,(p:Int)=E-zj s (L-1)-1:=⟨(E-zj s (L-1)-1).toNat,Y⟩;obtain⟨x,hx,bI,bt⟩:=Ks hp cK (λx hx=>(h0 x hx).1) db O bw;have hpl:=(asr.1 hx).1;have J:=aa.trans x9;refine bR (.take 0 (.take 1 (.take 2 (.take 3 (.take 4 (.alt 5 (oP [10,11] [] [6,7,8,9,10,11]) (oP [10,5,11] [] [10,5,6,7,8,9,11]))))))) [] (λz=>ax w9 z) mx Z (.refl _ _) ?_;refine Kg (aB (aL g) n1 c1) (a8.ai U) J ?_;refine Kg (iv E) (bA.ai U) J ?_;refine Kg (.func (.func 113) #[] #[ptr b6]) (B12.ai U) x9 ?_;refine go ?_;refine⟨?xl,?xr⟩;case' xl=>
   refine bW (F8 (bp.ae J) Y h0 (a8.ae J) (L:=L-1) ⟨Y,Y⟩) λw10 a7=>?_;refine bN a7 ?_;refine go ?_;refine idx p Y Y ?_;refine UL (fK x) (pt Bs hx) U J ?_;refine alloc λq u1 a1=>?_;have xe:=a7.trans a1.ae;have hq:w9.heap.size<=q:=by have:=a1.au;have:=a7.size;omega
   have bq:=a1.aS;refine bN xe ?_;clear a1 a7
  case' xr=>
   refine alloc λq u0 a1=>?_;refine bN a1.ae ?_;refine bW (F8 (bp.ae (J.trans a1.ae)) Y h0 (a8.ae (J.trans a1.ae)) (L:=L-1) ⟨Y,Y⟩) λu1 a7=>?_;have xe:=a1.ae.trans a7;have hq:w9.heap.size<=q:=by have:=a1.au;omega
   have bq:=a1.aS.ae a7;refine bN xe ?_;refine go ?_;refine idx p Y Y ?_;refine UL (fK x) (pt Bs hx) U J ?_;clear a1 a7
  all_goals
   refine fg bq λu2 bq kq zq=>?_;have xq:ax w9 u2:=xe.ag kq λb hb _ e=>Y;refine bN xq ?_;refine go ?_;refine hY (kQ ⟨false,L,x.1,x.2⟩) Z ?_;refine fg (dp.ae (J.trans xq)) λeb cb eh z12=>?_;have aq:=cb;refine ret ?_;refine da _ (bU (bF.aS aq) U) ?_;exact⟨(x2.trans (x6.trans (J.trans xq))).ag eh λb hb _ e=>Y,⟨false,L,x.1,x.2⟩,by rw[he];rfl,by unfold dX;rw[asp ⟨he,hz⟩];exact⟨bI,bt⟩⟩
 .have su:=xu.size;refine ld _ ((bA.ae xu).ai U) ?_;refine go ?_;obtain⟨R,hR⟩:∃R,R=E-H:=⟨_,U⟩;rw[<-hR];refine alloc λff w7 h7=>?_;refine st1 (v:=iv R) h7.aS U λw8 cr k8=>?_;have e7:=h7.au;have aa:=(xu.trans h7.ae).ag k8 λb hb _ e=>Y;have gn:=aa.size;refine alloc λfe w9 h9=>?_;refine st1 (v:=.func (.func 116) #[] #[ptr b6]) h9.aS U λw10 cp ei=>?_;have e9:=h9.au;have av:=h9.ae.ag ei λb hb _ e=>Y;have ay:=aa.trans av;have l15:=cr.lt;have gq:=cp.lt;have fU:=av.size;refine aJ (HQ (fn:=117) (cap:=#[ptr fe,ptr ff]) (p:=λv=>decide (uK s v<R)) (lo:=0) (hi:=T) ⟨Y,Y,Y⟩ (λv v' h1 h2 h3 h=>by rw[asy] at h|-;have:=Ql (s:=s) h2;omega) λv w' en ej xw=>UT (bp.ae (ay.trans xw)) Y h0 (a8.ae (ay.trans xw)) ⟨Y,Y⟩ (cp.ae xw) (cr.ae (av.trans xw))) ?_;rintro _ gm ⟨L,rfl,hL,bG⟩;have db:=hL.le;have ew:=hL.ge;have O:uK s L<R:=by
   by_cases q:L<T
   .exact att (hL.yes q)
   .have:=UU h0;rw[<-hT] at this;rw[show L=T from Y,this];omega
  have ga:E<=Qj s:=by rw[NW hp];exact eS
  have hzero:=QD h0;rw[<-hH] at hzero;have eL:1<=L:=by
   by_cases q:L=0
   .rw[q] at O;omega
   .omega
  have br:E<=me s+uK s (L-1):=by have:=avz (hL.no (L-1) Y Y);rw[<-hH];omega
  refine alloc λhM eb bT=>?_;refine st1 (v:=iv L) bT.aS U λgl ck k13=>?_;have hI:=bT.au;have af:=bT.ae.ag k13 λb hb _ e=>Y;have V:=ay.trans (bG.trans af);have bg:=bG.trans af;have ec:=af.size;have ef:=bG.size;have fW:=ay.size;have lg:=Bs.lt;have gp:=ck.lt;refine ld _ ((a8.ae V).ai U) ?_;refine aJ (abn (ms:=s) (Bs.ae V) ak.symm Y) ?_;rintro _ gi ⟨rfl,Br,kr⟩;have fi:=(a8.ae V).ah kr Y;refine go ?_;refine aJ (abm (ms:=s.reverse) (L:=L) Br (by rw[<-hbl,asu,asu,ja,ja,aum]) (by rw[aum];exact ak.symm) Y (λm hm=>h0 m (avK.1 hm)) (ck.ah kr Y) Y) ?_;rintro _ gd ⟨kd,A2,n2,c2,rfl,hf,gr⟩;have bo:=kr.trans kd;refine st1 (v:=aB A2 n2 c2) (fi.ah kd Y) U λb0 cg be=>?_;have hf:=hf.ah be λb _ hb e=>Y;have dy:=((cr.ae (av.trans bg)).ah bo Y).ah be Y;have dx:=((cp.ae bg).ah bo Y).ah be Y;have bE:=(ck.ah bo Y).ah be Y;have fs:=((dp.ae V).ah bo Y).ah be Y;have cw:=((x6.trans V).ag bo λb hb _ e=>Y).ag be λb hb _ e=>Y;have bx:=Xw (L:=L) h0 Y;rw[ak] at bx;rw[<-ak] at bx;obtain⟨p,bw⟩:∃p:Nat,(p:Int)=E-me s-uK s L-1:=⟨(E-me s-uK s L-1).toNat,by rw[<-hH];omega⟩;obtain⟨x,hx,bI,bt⟩:=NQ hp cK (λx hx=>(h0 x hx).1) eL br bw;rw[<-hH] at bw;have hx:(s.reverse.filter (mf L))[p]? =some x:=hx;have hpl:=(asr.1 hx).1;have hfl:=hf.an;have cT:DA (s.reverse.filter (mf L)):=h0.mono λy hy=>avK.1 (at6.1 hy).1;have cS:(s.reverse.filter (mf L)).length<=s.reverse.length:=auN _ _;rw[aum] at cS;obtain⟨b,o,cs,y,rfl,hy,-,-,hc,rfl⟩:=hf.au (k:=p) Y;obtain rfl:x=y:=by rw[hx] at hy;injection hy
  refine bR (.take 0 (.take 1 (.take 2 (.take 3 (.alt 4 (oP [9,10] [] [5,6,7,8,9,10]) (oP [9,4,10] [] [9,4,5,6,7,8,10])))))) [] (λz=>ax b0 z) mx Z (.refl _ _) ?_;refine Kg (aB (some (ad b o)) n2 c2) (cg.ai U) (.refl _ _) ?_;refine Kg (iv R) (dy.ai U) (.refl _ _) ?_;refine Kg (.func (.func 116) #[] #[ptr b6]) (dx.ai U) (.refl _ _) ?_;refine Kg (iv L) (bE.ai U) (.refl _ _) ?_;refine⟨?yl,?yr⟩;case' yl=>
   refine bW (F9 hf Y cT cg (L:=L) ⟨Y,Y⟩) λw17 a6=>?_;rw[HT];refine bN a6 ?_;refine go ?_;refine idx p Y Y ?_;refine UL (fK x) hc U (.refl _ _) ?_;refine alloc λq u1 a1=>?_;have xe:ax b0 u1:=a6.trans a1.ae;have hq:b0.heap.size<=q:=by have:=a1.au;have:=a6.size;omega
   have bq:aP u1 q 248 [iv 0,iv 0]:=a1.aS;refine bN xe ?_;clear a1 a6
  case' yr=>
   refine alloc λq u0 a1=>?_;refine bN a1.ae ?_;refine bW (F9 (hf.ae a1.ae) Y cT (cg.ae a1.ae) (L:=L) ⟨Y,Y⟩) λu1 a6=>?_;rw[HT];have xe:ax b0 u1:=a1.ae.trans a6;have hq:b0.heap.size<=q:=by have:=a1.au;omega
   have bq:aP u1 q 248 [iv 0,iv 0]:=a1.aS.ae a6;refine bN xe ?_;refine go ?_;refine idx p Y Y ?_;refine UL (fK x) hc U (.refl _ _) ?_;clear a1 a6
  all_goals
   refine jR (vs:=fK x) bq U Yl Ys λu2 bq kq zq=>?_;have bq:aP u2 q 248 (fK x):=bq;have xq:ax b0 u2:=xe.ag kq λb hb _ e=>Y;refine bN xq ?_;refine ld (iv L) ((bE.ae xq).ai U) ?_;refine bC ?_;refine ld (iv x.1) (bq.ai U) ?_;refine bC ?_;refine ld (iv x.2) (bq.ai U) ?_;refine hY (kQ ⟨true,L,x.1,x.2⟩) Z ?_;refine fg (fs.ae xq) λdO cb eg gb=>?_;have aq:aP dO b4 134 (kQ ⟨true,L,x.1,x.2⟩):=cb;refine ret ?_;refine da _ (bU (bF.aS aq) U) ?_;exact⟨(x2.trans (cw.trans xq)).ag eg λb hb _ e=>Y,⟨true,L,x.1,x.2⟩,by rw[he];rfl,by unfold dX;rw[asp ⟨he,hz⟩];exact⟨bI,bt⟩⟩
end
section
open Go.Sort
instance aqv:F4 prog 134:=⟨by kernel_rfl⟩
section
variable {D:Nat->Prop} {w:World}
theorem abo:aA 111 #[.agg (fK x).toArray,.agg (fK y).toArray] w (iv (uJ x y)):=by
 intro w0 hw;subst hw;rw[avi];apply(Xn x y w0).mono;rintro e u ⟨rfl,q,os,rfl⟩;refine⟨_,U,U,U,U,U,?_,λi hi _=>?_⟩
 .show w0.heap.size<=(w0.heap++os).size;rw[Array.size_append];omega
 .show(w0.heap++os)[i]? =w0.heap[i]?;exact atZ hi
theorem UW:uJ x y<=0↔y.1<x.1\/(x.1=y.1/\x.2<=y.2):=by unfold uJ uI;repeat' split<;>omega
theorem UX:0<=uJ x y↔x.1<y.1\/(x.1=y.1/\y.2<=x.2):=by unfold uJ uI;repeat' split<;>omega
theorem zU{m:Mk}:((m.late == false)&&((m.level == 0)&&((m.gV == 0)&&((m.index == 0)&&true))))=decide (m=Mk.none):=by
 obtain⟨l,L,c,i⟩:=m;rw[awA];simp[Mk.none]
theorem QE{m:Mk}{x:Int×Int}(hx:0<=x.1/\x.1<=1073741824)(hm:0<=m.level/\m.level<=1073741824):aA 122 #[.agg (kQ m).toArray,.agg (fK x).toArray] w (iv (dC m x.1 x.2)):=by
 obtain⟨l,L,c0,i0⟩:=m;refine aF func122 Z ?_;refine box λb2 w1 h1=>?_;refine box λb3 W A=>?_;have V:=h1.ae.trans A.ae;have O:=h1.aS.ae A.ae;have M:aP W b3 248 (fK x):=A.aS;refine go ?_;refine hY (fK (c0,i0)) Z ?_;refine bW (abo (x:=x) (y:=(c0,i0))) λw3 z=>?_;obtain⟨O,M⟩:=zQ z O M;have z:=V.trans z;have hle:=UW (x:=x) (y:=(c0,i0));have u:=UX (x:=x) (y:=(c0,i0));obtain⟨o,J⟩:∃o,o=uJ x (c0,i0):=⟨_,U⟩;rw[<-J] at hle u|-;have hle:o<=0↔c0<x.1\/(x.1=c0/\x.2<=i0):=hle;have u:0<=o↔x.1<c0\/(x.1=c0/\i0<=x.2):=u;clear J;refine go ?_;refine hY [.bool false,iv 0,iv 0,iv 0] Z ?_;refine Uz ((l == false)&&((L == 0)&&((c0 == 0)&&((i0 == 0)&&true)))) Z (λq=>?_) λq=>?_
 .rw[show((l == false)&&((L == 0)&&((c0 == 0)&&((i0 == 0)&&true))))=decide ((⟨l,L,c0,i0⟩:Mk)=Mk.none) from@zU ⟨l,L,c0,i0⟩,asy] at q;exact aQ (iv 0) U ⟨by unfold dC;rw[asp q],z⟩
 rw[show((l == false)&&((L == 0)&&((c0 == 0)&&((i0 == 0)&&true))))=decide ((⟨l,L,c0,i0⟩:Mk)=Mk.none) from@zU ⟨l,L,c0,i0⟩,asZ] at q;cases l with
 |false=>
  refine go ?_;refine cD (λg=>?_) λg=>?_
  .refine go ?_;refine vL Y Y Y ?_;refine go ?_;refine aQ (iv (min (x.1/2) L)) U ⟨?_,z⟩;unfold dC;rw[aso q,aso (by simp),asp (show pq ⟨false,L,c0,i0⟩ x.1 x.2 from hle.1 g)]
  .refine go ?_;refine vL Y Y Y ?_;refine go ?_;refine aQ (iv (min (x.1/2) (L-1))) U ⟨?_,z⟩;unfold dC;rw[aso q,aso (by simp),aso (show¬pq ⟨false,L,c0,i0⟩ x.1 x.2 fromλh=>g (hle.2 h))]
 |true=>
  refine go ?_;refine cD (λg=>?_) λg=>?_
  .refine go ?_;refine vL Y Y Y ?_;refine go ?_;refine aQ (iv (x.1-min (x.1-x.1/2) (L-1))) U ⟨?_,z⟩;unfold dC;rw[aso q,asp U,asp (show pq ⟨true,L,c0,i0⟩ x.1 x.2 from u.1 g)]
  .refine go ?_;refine vL Y Y Y ?_;refine go ?_;refine aQ (iv (x.1-min (x.1-x.1/2) L)) U ⟨?_,z⟩;unfold dC;rw[aso q,asp U,aso (show¬pq ⟨true,L,c0,i0⟩ x.1 x.2 fromλh=>g (u.2 h))]
def VM(m:Mk):Prop:=m=Mk.none\/(m.Lit/\m.gV<=1073741824/\0<=m.index/\m.index<664)
theorem VM.b{m:Mk}(h:VM m):0<=m.level/\m.level<=1073741824:=by
 rcases h with rfl|⟨h,h1,-⟩
 .exact⟨Yd,Yd⟩
 .have:=h.lo;have:=h.hi;have:=h.c0;split at* <;>omega
noncomputable instance (m:Mk):Decidable (VM m):=Classical.propDecidable _
noncomputable def vT (m:Mk):Bool:=decide (VM m)
theorem QG{m:Mk}:aA 121 #[.agg (kQ m).toArray] w (.bool (vT m)):=by
 have key:∀{b:Bool},(b=true↔VM m)->b=vT m:=λ{b} h=>by
  unfold vT;cases b with
  |true=>exact(asE (h.1 U)).symm
  |false=>exact(asG λk=>by cases h.2 k).symm
 obtain⟨l,L,c0,i0⟩:=m;refine aF func121 Z ?_;refine box λb1 w1 h1=>?_;have B:aP w1 b1 134 [.bool l,iv L,iv c0,iv i0]:=h1.aS;refine go ?_;refine hY [.bool false,iv 0,iv 0,iv 0] Z ?_;refine Uz ((l == false)&&((L == 0)&&((c0 == 0)&&((i0 == 0)&&true)))) Z (λq=>?_) λq=>?_
 .rw[show((l == false)&&((L == 0)&&((c0 == 0)&&((i0 == 0)&&true))))=decide ((⟨l,L,c0,i0⟩:Mk)=Mk.none) from@zU ⟨l,L,c0,i0⟩,asy] at q;exact aQ (.bool true) U ⟨by rw[<-key (b:=true) ⟨λ_=>.inl q,λ_=>rfl⟩],h1.ae⟩
 rw[show((l == false)&&((L == 0)&&((c0 == 0)&&((i0 == 0)&&true))))=decide ((⟨l,L,c0,i0⟩:Mk)=Mk.none) from@zU ⟨l,L,c0,i0⟩,asZ] at q;have fal:¬((⟨l,L,c0,i0⟩:Mk).Lit/\c0<=1073741824/\0<=i0/\i0<664)->false=vT ⟨l,L,c0,i0⟩:=λh=>key ⟨λh=>(by cases h),λk=>(k.elim q h).elim⟩;have tru:((⟨l,L,c0,i0⟩:Mk).Lit/\c0<=1073741824/\0<=i0/\i0<664)->true=vT ⟨l,L,c0,i0⟩:=λh=>key ⟨λ_=>.inr h,λ_=>rfl⟩;have lhi:(⟨l,L,c0,i0⟩:Mk).Lit->1<=L/\0<=c0/\L<=c0:=λh=>by
  have h1:1<=L:=h.lo;have h2:L<=if l=true then c0-c0/2 else c0/2:=h.hi
  have h3:0<=c0:=h.c0;split at h2<;>omega
 refine go ?_;refine cD (λg1=>?_) λg1=>?_
 .exact adB
 refine go ?_;refine cD (λg2=>?_) λg2=>?_
 .exact TZ
 refine go ?_;refine cD (λg3=>?_) λg3=>?_
 .exact TZ
 refine go ?_;refine cD (λg4=>?_) λg4=>?_
 .exact TZ
 refine go ?_;refine cD (λg5=>?_) λg5=>?_
 .exact adB
 refine go ?_;refine cD (λg6=>?_) λg6=>?_
 .exact adB
 cases l with
 |false=>
  refine go ?_;refine vL Y Y Y ?_;exact aot
 |true=>
  refine go ?_;refine vL Y Y Y ?_;refine go ?_;exact aot
noncomputable def DL (m:Mk)(i c:Int):Int:=if VM m then(if 0<=i/\i<664/\0<=c/\c<=1073741824 then 0 else 1) else 400
theorem QH{m:Mk}{i:Int}:aA 40 #[.agg (kQ m).toArray,iv i,iv c] w (.tuple #[iv (if DL m i c=0 then dC m c i else 0),iv (DL m i c)]):=by
 have bad:VM m->¬(0<=i/\i<664/\0<=c/\c<=1073741824)->DL m i c=1:=λh k=>by unfold DL;rw[asp h,aso k]
 refine aF func40 Z<|box λb w1 h1=>?_;have B:=h1.aS;refine go<|dt (QG (m:=m)) (λw2 q x2=>?_) λw2 q x2=>?_
 .have hv:VM m:=att q;have x12:=h1.ae.trans x2;refine cD (λg1=>?_) λg1=>?_
  .exact W8
  refine cD (λg2=>?_) λg2=>?_
  .exact W8
  refine cD (λg3=>?_) λg3=>?_
  .exact W8
  refine cD (λg4=>?_) λg4=>?_
  .exact W8
  refine fj _ (.aS (B.ae x2)) U<|hY (fK (c,i)) Z<|bW (QE (m:=m) (x:=(c,i)) ⟨by show 0<=c;omega,by show c<=_;omega⟩ hv.b) λw3 x3=>?_;have e:DL m i c=0:=by unfold DL;rw[asp hv,asp ⟨Y,Y,Y,Y⟩]
  exact tK (iv (dC m c i)) (iv 0) U rfl ⟨by rw[e];rfl,x12.trans x3⟩
 .have hv:¬VM m:=avz q;have e:DL m i c=400:=by unfold DL;rw[aso hv]
  exact tK (iv 0) (iv 400) U rfl ⟨by rw[e];rfl,h1.ae.trans x2⟩
def NX(m:Mk)(l:aX):aX:=(List.range l.length).map λi=>dC m (bL l i) i
theorem QI{m:Mk}{l:aX}(h:l[k]? =some c):NX m (l.take (k+1))=NX m (l.take k)++[dC m c k]:=by
 have hk:=(asr.1 h).1;unfold NX;exact aoc
theorem dX.vm{l:aX}{m:Mk}(h:dX E l m)(he:jX E l=0):VM m:=by
 unfold dX at h;by_cases z:E=0
 .rw[aso λk=>k.2 z] at h;exact .inl h
 .rw[asp ⟨he,z⟩] at h;obtain⟨hlen,u,-⟩:=sX he;have A:=h.1.ix;refine .inr ⟨h.1.lit,?_,Y,Y⟩;rw[h.1.cl];refine(u _ ?_).2;unfold bL;rw[asC,asw Yg];exact au0 _
set_option maxRecDepth 4000 in
theorem QJ{l:aX}{c:Nat}(hl:bS cO D w A n l)(hE:jt E):aK prog 77 #[iv E,aB A n c] w (λv w'=>(jX E l≠0/\v=.tuple #[aY,iv (jX E l)]/\ax w w')\/(jX E l=0/\∃m M W c',dX E l m/\v=.tuple #[aB M W c',iv 0]/\bu w w' M W c' 3 1 ((NX m l).map λk=>iv k)/\W=l.length)):=by
 have l1:=hl.an;refine aF func77 Z<|aJ (Kw hl hE) ?_;rintro _ w1 ⟨x1,m,rfl,hm⟩;obtain⟨e,J⟩:∃e,e=jX E l:=⟨_,U⟩;rw[<-J];refine alloc λb w2 h2=>?_;refine fg h2.aS λV B k3 z3=>?_;have B:aP V b 134 (kQ m):=B;have e2:=h2.au;have O:ax w V:=(x1.trans h2.ae).ag k3 λb hb _ e=>by have:=x1.size;omega
 refine cN (λg=>?_) λg=>?_
 .exact tK (aY) (iv e) U rfl (.inl ⟨g,U,O⟩)
 have he:jX E l=0:=by rw[<-J];exact g
 obtain⟨hlen,a6,-⟩:=sX he;have X:=(hm.vm he).b;apply an;apply aM (λs:Nat×bZ×Nat=>[(20,iv (s.1:Int)),(4,aB s.2.1 s.1 s.2.2)]) (λs u=>s.1<=n/\bu V u s.2.1 s.1 s.2.2 3 1 ((NX m (l.take s.1)).map λk=>iv k)) (λs _=>n-s.1) (0,none,0) ⟨U,U,Yt⟩ ⟨Y,.nil (.refl _ _)⟩ U;rintro G ⟨k,C,cb⟩ u ⟨hk,own⟩;refine cD (λz=>?_) λa8=>?_
 .have z:k<n:=Y;obtain⟨b,o,cs,a,rfl,ha,-,-,hc,rfl,hi⟩:=(hl.ae (O.trans own.ae)).au z;have a7:=a6 a (asq ha);apply idx k U z;refine go ?_;refine fj (kQ m) (.aS (B.ae own.ae)) U ?_;refine hY (fK (a,(k:Int))) Z ?_;refine bW (QE (m:=m) (x:=(a,(k:Int))) a7 X) λu1 y1=>?_;refine lit [iv (dC m a k)] λg u2 hq=>?_;refine iI (own.ag (y1.trans hq.ae)) (hq.src (sz:=1) U) Y λM c' u3 o3 _ _=>?_;refine go ?_;refine next (k+1,M,c') ⟨Yn,U,Yt⟩ ⟨Y,?_⟩ (by simp only;omega);rw[QI ha,asK];exact o3
 .have a1:k=n:=Y;subst a1;rw[asx Y] at own;exact tK (aB C k cb) (iv 0) U rfl (.inr ⟨g,m,C,k,cb,hm,U,own.base O,Y⟩)
end
end
theorem vQ.uniq{b:Int}(h:vQ p lo hi a)(k:vQ p lo hi b):a=b:=by
 rcases Int.lt_trichotomy a b with h1|h1|h1
 .have:=k.no a h.le h1;rw[h.yes (by have:=k.ge;omega)] at this;cases this
 .exact h1
 .have:=h.no b k.le h1;rw[k.yes (by have:=h.ge;omega)] at this;cases this
def bs(p:Int->Bool):Nat->Int->Int->Int
 |0,lo,_=>lo
 |n+1,lo,hi=>if lo<hi then(if p ((lo+hi)/2) then bs p n lo ((lo+hi)/2) else bs p n ((lo+hi)/2+1) hi) else lo
theorem BE{p:Int->Bool}{a b:Int}(hm:∀v v',a<=v->v<=v'->v'<=b->p v=true->p v'=true):∀(n:Nat) {lo hi:Int},tP p a b lo hi->hi-lo<2 ^ n->vQ p a b (bs p n lo hi)
 |0,lo,hi,h,A=>h.done (by simp at A;omega)
 |n+1,lo,hi,h,A=>by
  unfold bs
  have e:(2:Int) ^ (n+1)=2*2 ^ n:=by rw[Int.pow_succ];omega
  by_cases u:lo<hi
  .rw[asp u]
   cases z:p ((lo+hi)/2) with
   |true=>rw[asp rfl];exact BE hm n (h.left Y Y z) Y
   |false=>rw[aso (by simp)];exact BE hm n (h.right hm Y Y z) Y
  .rw[aso u];exact h.done Y
def abp(r:Reach)(v:Int):Int:=v-(gM r v).lo
def nC(r:Reach)(v:Int):Int:=v-(gM r v).hi
section
variable {r:Reach} {v v' w:Int}
theorem NY{n d:Int}(hd:0<d)(u:n<=d)(h:v<=v'):Ep (v'*n) d<=Ep (v*n) d+(v'-v):=by
 have z:v'*n<=v*n+(v'-v)*d:=by have:(v'-v)*n<=(v'-v)*d:=atd u Y;rw[Int.sub_mul] at this;omega
 unfold Ep;rw[<-Int.add_mul_ediv_right _ _ Y];exact Int.ediv_le_ediv hd Y
theorem Gr(u:eB r=true)(z:0<=v):gM r v=⟨min v (r.dN.lo+v*r.s0.n/r.s0.d),if v=0 then 0 else min v (r.dN.hi+Ep (v*r.s1.n) r.s1.d)⟩:=by
 obtain⟨h1,A⟩:=fJ.1 u;unfold gM;by_cases h:v=0
 .subst h;rw[asp U,asp U,awt,Int.zero_ediv];congr 1;omega
 .rw[aso h,aso h]
theorem xS(u:eB r=true)(M:0<=v)(h:v<=v'):nC r v<=nC r v':=by
 obtain⟨h1,O⟩:=fJ.1 u;obtain⟨W,z,_⟩:=gy.1 O;obtain⟨J,V,A⟩:=eJ.1 z;obtain⟨d1,-⟩:=cV.1 J;have f:=NY (v:=v) (v':=v') (show 0<r.s1.d from Y) A h;have s:=rB (v:=v') z Y;unfold nC;rw[Gr u M,Gr u Y];show v-(if v=0 then 0 else _)<=v'-(if v'=0 then 0 else _);by_cases e:v=0
 .exact Yg
 .exact Yg
theorem BF(A:eB r=true)(z:0<=v/\v<=1073741824):0<=nC r v/\nC r v<=abp r v/\abp r v<=v:=by
 have h:=FW A z;obtain⟨h1,h2⟩:=fJ.1 A;obtain⟨Z,X,W⟩:=gy.1 h2;have:(gM r v).lo<=(gM r v).hi:=by
  rw[Gr A z.1];show min v _<=if v=0 then 0 else min v _
  by_cases e:v=0
  .rw[asp e];omega
  .rw[aso e];obtain⟨V,q2,q3⟩:=eJ.1 Z;obtain⟨u,O,M⟩:=eJ.1 X;obtain⟨d1,-⟩:=cV.1 V;obtain⟨a6,-⟩:=cV.1 u;have k:v*r.s0.n/r.s0.d<=Ep (v*r.s1.n) r.s1.d:=by
    have J:v*r.s0.n/r.s0.d*r.s0.d<=v*r.s0.n:=Int.ediv_mul_le _ Y;have a2:v*r.s1.n<=Ep (v*r.s1.n) r.s1.d*r.s1.d:=by have:v*r.s1.n+r.s1.d-1<((v*r.s1.n+r.s1.d-1)/r.s1.d+1)*r.s1.d:=avj _ Y;unfold Ep;rw[atX] at this;omega
    generalize v*r.s0.n/r.s0.d=x at J;generalize Ep (v*r.s1.n) r.s1.d=y at a2;have b1:x*r.s0.d*r.s1.d<=v*r.s0.n*r.s1.d:=ati J Y;have b2:v*r.s1.n*r.s0.d<=y*r.s1.d*r.s0.d:=ati a2 Y;have b3:v*(r.s0.n*r.s1.d)<=v*(r.s1.n*r.s0.d):=atd W z.1;have b4:x*(r.s0.d*r.s1.d)<=y*(r.s0.d*r.s1.d):=by rw[<-awk,<-awk] at b3|-;rw[Int.mul_right_comm y r.s0.d r.s1.d];omega
    exact avr b4 (auv Y Y)
   omega
 unfold nC abp;omega
def rG(r:Reach)(w:Int):Int:=bs (λv=>decide (w<=nC r v)) 31 0 1073741825
theorem mZ(u:eB r=true):vQ (λv=>decide (w<=nC r v)) 0 1073741825 (rG r w):=BE (λv v' h1 z _ h=>by rw[asy] at h|-;have:=xS u h1 z;omega) 31 (tP.bH Y) Yd
end
instance apW:F4 prog 171:=⟨by kernel_rfl⟩
def tI0:Ty Int:=JS 1 (λx=>[iv x]) λ_=>rfl
theorem qU.i0{w u:World}{e:TypeId}{g:Nat}(xs:aX)(A:qU w e (xs.map λx=>iv x) g u)(z:Nat.ble xs.length 1000=true:=by rfl):bS tI0 (λ_=>True) u (aL g) xs.length xs:=
 bS.jw rfl (by have:=asB z;omega) Yt (.aS A.aS) (by
  clear z A
  induction xs with
  |nil=>rfl
  |cons x xs J=>exact⟨[iv x],_,rfl,rfl,J⟩)
def kindOk(h:Int)(x:gW):Bool:=if x.kind=1 then decide (x.aZ=0)&&(dS x.cC 0 1048576&&(dS x.aC 1 1073741824&&(dS x.length 1 x.every&&decide (x.every<=h)))) else if x.kind=2 then decide (x.cC=0)&&(decide (x.aC=0)&&(decide (x.every=0)&&(decide (x.length=0)&&(decide (x.dq=0)&&decide (x.to=h-1))))) else if x.kind=3 then decide (x.cC=0)&&(decide (x.aC=0)&&(decide (x.every=0)&&decide (x.length=0))) else false
def jF(nf nr:Nat)(h:Int)(x:gW):Bool:=dS x.aO 0 ((nf:Int)-1)&&(dS x.aZ 0 ((nr:Int)-1)&&(dS x.dq 0 x.to&&(decide (x.to<h)&&kindOk h x)))
theorem qh{b:Int}:fQ [a,b,c,e]=true↔a<=b/\b<=c/\c<=e:=by unfold fQ fQ fQ fQ;simp
theorem pv{b:Int}:fQ [a,b,c,e]=false↔¬(a<=b/\b<=c/\c<=e):=by rw[<-qh];simp
theorem pw{b:Int}:fQ [a,b,c]=true↔a<=b/\b<=c:=by rw[zS,bO]
theorem px{b:Int}:fQ [a,b,c]=false↔¬(a<=b/\b<=c):=by rw[zS,FV]
section
variable {D:Nat->Prop} {w:World}
theorem gX{xs:aX}{A:bZ}{n c:Nat}(h:bS tI0 D w A n xs):aK prog 214 #[aB A n c] w (λv z=>v=.bool (fQ xs)/\z=w):=by
 apply aF func214 Z;apply aM (λk:Nat=>[(3,iv (k:Int))]) (λk z=>z=w/\1<=k/\(k<=n\/k=1)/\fQ xs=fQ (xs.drop (k-1))) (λk _=>n+1-k) 1 ⟨U,Yt⟩ ⟨U,Y,Y,by rw[aug,at3]⟩ U;rintro G k z ⟨rfl,h1,h2,he⟩;apply an;refine cD (λV=>?_) λW=>?_
 .apply uo mx Z;obtain⟨b,o,cs,x,rfl,-,M,-,X,rfl⟩:=h.au (show k<n from Y);obtain⟨b',o',cs,y,hb,-,O,-,J,rfl⟩:=h.au (show k-1<n from Y);cases hb;apply idx k U Y;refine pb _ (λu hu=>by rw[hu];exact X 0 _ U) ?_;refine eD (by have:=h.le;omega) ?_;apply idx (k-1) Y Y;refine pb _ (λu hu=>by rw[hu];exact J 0 _ U) ?_;rw[O,show k-1+1=k from Y,M] at he;refine cD (λg=>?_) λg=>?_
  .exact aQ _ U ⟨by rw[he,fQ,asG Y];rfl,U⟩
  .refine eD (by have:=h.le;omega)<|next (k+1) ⟨Yn,Yt⟩ ⟨U,Y,Y,?_⟩ Y;rw[he,fQ,asE Y,auK,M];rfl
 .refine aQ _ U ⟨?_,U⟩;rw[he];have hl:=h.an;match hd:xs.drop (k-1),(show(xs.drop (k-1)).length<=1 by rw[atM];omega) with
  |[],_=>rfl
  |[_],_=>rfl
theorem QK{x:Reach}:aA 215 #[iv (i:Int),x.v] w (.bool (qf i x.up&&gQ x)):=by
 apply aF func215 Z;refine box λg w1 h1=>?_;have bad:¬(qf i x.up=true/\gQ x=true)->Value.bool false=.bool (qf i x.up&&gQ x):=λh=>by rw[show(qf i x.up&&gQ x)=false from atl.2 λe=>h (by simpa using e)]
 refine go ?_;refine ld (iv x.up) (h1.aS.ai U) ?_;refine cE (λh0=>?a) λh0=>?b;all_goals refine cD (λhi=>?_) λhi=>?_
 case' b.refine_2=>
  exact aQ (.bool false) U ⟨bad λh=>by have:=h.1;unfold qf at this;rw[asp Y,asy] at this;exact h0 this,h1.ae⟩
 case' a.refine_1=>
  refine go ?_;refine ld (iv x.up) (h1.aS.ai U) ?_;refine cR km (λz=>?_) λz=>?_;rotate_left
  .exact aQ (.bool false) U ⟨bad λh=>by have:=h.1;unfold qf at this;rw[aso Y,z] at this;exact Bool.noConfusion this,h1.ae⟩
  have hu:qf i x.up=true:=by unfold qf;rw[aso Y,z]
 case' b.refine_1=>
  refine go ?_;refine ld (iv x.up) (h1.aS.ai U) ?_;refine cR km (λz=>?_) λz=>?_;rotate_left
  .exact aQ (.bool false) U ⟨bad λh=>by have:=h.1;unfold qf at this;rw[aso Y,z] at this;exact Bool.noConfusion this,h1.ae⟩
  have hu:qf i x.up=true:=by unfold qf;rw[aso Y,z]
 case' a.refine_2=>
  have hu:qf i x.up=true:=by unfold qf;rw[asp Y,h0];rfl
 all_goals
  refine go ?_;refine ld (iv x.bD) (h1.aS.ai U) ?_;refine lit [iv 1,iv x.bD,iv 16] λg2 w2 u=>?_;refine cR (gX (u.i0 [1,x.bD,16])) (λr1=>?_) λr1=>?_;rotate_left
  .exact aQ (.bool false) U ⟨bad λh=>px.1 r1 (eu.1 h.2).1,h1.ae.trans u.ae⟩
  have y2:=h1.aS.ae u.ae;refine go ?_;refine lit [iv 0,iv x.dM,iv x.cap,iv 1073741824] λg3 w3 M=>?_;have X:=u.ae.trans M.ae;refine cR (gX (M.i0 [0,x.dM,x.cap,1073741824])) (λr2=>?_) λr2=>?_;rotate_left
  .exact aQ (.bool false) U ⟨bad λh=>pv.1 r2 (by have:=eu.1 h.2;omega),h1.ae.trans X⟩
  have y3:=h1.aS.ae X;refine go ?_;refine lit [iv 0,iv x.dM,iv x.vN,iv 1099511627776] λg4 w4 J=>?_;have W:=X.trans J.ae;refine cR (gX (J.i0 [0,x.dM,x.vN,1099511627776])) (λr3=>?_) λr3=>?_;rotate_left
  .exact aQ _ U ⟨bad λh=>pv.1 r3 (by have:=eu.1 h.2;omega),h1.ae.trans W⟩
  have y4:=h1.aS.ae W;refine go ?_;refine lit [iv 0,iv x.dN.lo,iv x.dN.hi,iv 1073741824] λg5 w5 A=>?_;have O:=W.trans A.ae;refine cR (gX (A.i0 [0,x.dN.lo,x.dN.hi,1073741824])) (λr4=>?_) λr4=>?_;rotate_left
  .exact aQ _ U ⟨bad λh=>pv.1 r4 (fJ.1 (eu.1 h.2).2.2.2.2).1,h1.ae.trans O⟩
  refine go ?_;refine fj _ (((bF.aS h1.aS).JR 8 4).ah O Yt) U ?_;refine dt (Qt (a:=x.s0) (b:=x.s1)) (λw6 hs V=>?_) λw6 hs V=>?_
  .have:=pw.1 r1;have:=qh.1 r2;have:=qh.1 r3;have he:=qh.1 r4;exact aQ _ U ⟨by rw[hu,eu.2 ⟨Y,Y,Y,Y,fJ.2 ⟨he,hs⟩⟩];rfl,h1.ae.trans (O.trans V)⟩
  .exact aQ _ U ⟨bad λh=>by have:=(fJ.1 (eu.1 h.2).2.2.2.2).2;rw[hs] at this;exact Bool.noConfusion this,h1.ae.trans (O.trans V)⟩
end
section
variable {D:Nat->Prop} {w:World}
theorem QL{cs:aW}{x:gW}(hd:iG D w cs d)(hh:1<=d.aG/\d.aG<=4096):aA 217 #[.agg cs.toArray,.agg x.c.toArray] w (.bool (jF d.aR.length d.aD.length d.aG x)):=by
 obtain⟨A1,n1,c1,A2,n2,c2,A3,n3,c3,A4,n4,c4,A5,n5,c5,A6,n6,c6,rfl,hr,hf,af,aa,hdu,a8⟩:=hd.ex;have l1:=hr.an;have l2:=hf.an;have e1:=hr.le;have e2:=hf.le;refine aF func217 Z ?_;have bad:¬(jF d.aR.length d.aD.length d.aG x=true)->Value.bool false=.bool (jF d.aR.length d.aD.length d.aG x):=λh=>by rw[atl.2 h]
 have iff:jF d.aR.length d.aD.length d.aG x=true↔dS x.aO 0 ((n2:Int)-1)=true/\dS x.aZ 0 ((n1:Int)-1)=true/\(0<=x.dq/\x.dq<=x.to)/\x.to<d.aG/\kindOk d.aG x=true:=by unfold jF;rw[l1,l2];simp only[asv,asy,bO]
 refine box λg w1 h1=>?_;refine box λq w2 h2=>?_;have bg:=h1.aS.ae h2.ae;have bq:=h2.aS;have x2:=h1.ae.trans h2.ae;refine go ?_;refine cR km (λa1=>?_) λa1=>?_;rotate_left
 .exact aQ (.bool false) U ⟨bad λh=>Yg,x2⟩
 refine go ?_;refine cR km (λa2=>?_) λa2=>?_;rotate_left
 .exact aQ (.bool false) U ⟨bad λh=>Yg,x2⟩
 refine go ?_;refine lit [iv 0,iv x.dq,iv x.to,iv (d.aG-1)] λg3 w3 hb3=>?_;refine cR (gX (hb3.i0 [0,x.dq,x.to,d.aG-1])) (λa3=>?_) λa3=>?_;rotate_left
 .exact aQ (.bool false) U ⟨bad λh=>pv.1 a3 (by have:=iff.1 h;omega),x2.trans hb3.ae⟩
 have a3:=qh.1 a3;have iff2:jF d.aR.length d.aD.length d.aG x=true↔kindOk d.aG x=true:=by rw[iff];exact⟨λh=>h.2.2.2.2,λh=>⟨a1,a2,Y,Y,h⟩⟩
 have x3:=x2.trans hb3.ae;have a7:=bg.ae hb3.ae;have O:=bq.ae hb3.ae;refine go ?_;refine cE (λk1=>?_) λk1=>?_
 .have iff3:kindOk d.aG x=true↔x.aZ=0/\(0<=x.cC/\x.cC<=1048576)/\(1<=x.aC/\x.aC<=1073741824)/\(1<=x.length/\x.length<=x.every)/\x.every<=d.aG:=by unfold kindOk;rw[asp k1];simp only[asv,asy,bO]
  refine go ?_;refine cE (λb1=>?_) λb1=>?_;rotate_left
  .exact aQ (.bool false) U ⟨bad λh=>b1 (iff3.1 (iff2.1 h)).1,x3⟩
  refine go ?_;refine lit [iv 0,iv x.cC,iv 1048576] λg4 w4 hb4=>?_;refine cR (gX (hb4.i0 [0,x.cC,1048576])) (λb2=>?_) λb2=>?_;rotate_left
  .exact aQ (.bool false) U ⟨bad λh=>px.1 b2 (iff3.1 (iff2.1 h)).2.1,x3.trans hb4.ae⟩
  refine go ?_;refine ld (iv x.aC) ((O.ae hb4.ae).ai U) ?_;refine lit [iv 1,iv x.aC,iv 1073741824] λg5 w5 a6=>?_;have J:=hb4.ae.trans a6.ae;refine cR (gX (a6.i0 [1,x.aC,1073741824])) (λb3=>?_) λb3=>?_;rotate_left
  .exact aQ _ U ⟨bad λh=>px.1 b3 (iff3.1 (iff2.1 h)).2.2.1,x3.trans J⟩
  refine go ?_;refine ld _ ((O.ae J).ai U) ?_;refine go ?_;refine ld _ ((O.ae J).ai U) ?_;refine go ?_;refine ld (iv d.aG) ((a7.ae J).ai U) ?_;refine lit [iv 1,iv x.length,iv x.every,iv d.aG] λg6 w6 V=>?_;have x36:=J.trans V.ae;refine cR (gX (V.i0 [1,x.length,x.every,d.aG])) (λb4=>?_) λb4=>?_
  .have b4:=qh.1 b4;exact aQ (.bool true) U ⟨by rw[iff2.2 (iff3.2 ⟨b1,pw.1 b2,pw.1 b3,Y,Y⟩)],x3.trans x36⟩
  .exact aQ (.bool false) U ⟨bad λh=>pv.1 b4 (by have:=iff3.1 (iff2.1 h);omega),x3.trans x36⟩
 refine cE (λk2=>?_) λk2=>?_
 .have iff3:kindOk d.aG x=true↔x.cC=0/\x.aC=0/\x.every=0/\x.length=0/\x.dq=0/\x.to=d.aG-1:=by unfold kindOk;rw[aso k1,asp k2];simp only[asv,asy]
  refine go ?_;refine hY [.string x.name,iv x.kind,iv x.aO,iv x.aZ,iv 0,iv 0,iv 0,iv (d.aG-1),iv 0,iv 0] Z ?_;refine Uz ((x.name.toList == x.name.toList)&&((x.kind == x.kind)&&((x.aO == x.aO)&&((x.aZ == x.aZ)&&((x.cC == 0)&&((x.aC == 0)&&((x.dq == 0)&&((x.to == d.aG-1)&&((x.every == 0)&&((x.length == 0)&&true)))))))))) Z (λb=>?_) λb=>?_
  .refine aQ (.bool true) U ⟨?_,x3⟩;simp at b;rw[iff2.2 (iff3.2 Y)]
  .exact YE
 refine cE (λk3=>?_) λk3=>?_
 .have iff3:kindOk d.aG x=true↔x.cC=0/\x.aC=0/\x.every=0/\x.length=0:=by unfold kindOk;rw[aso k1,aso k2,asp k3];simp only[asv,asy]
  refine go ?_;refine hY [.string x.name,iv x.kind,iv x.aO,iv x.aZ,iv 0,iv 0,iv x.dq,iv x.to,iv 0,iv 0] Z ?_;refine Uz ((x.name.toList == x.name.toList)&&((x.kind == x.kind)&&((x.aO == x.aO)&&((x.aZ == x.aZ)&&((x.cC == 0)&&((x.aC == 0)&&((x.dq == x.dq)&&((x.to == x.to)&&((x.every == 0)&&((x.length == 0)&&true)))))))))) Z (λb=>?_) λb=>?_
  .refine aQ (.bool true) U ⟨?_,x3⟩;simp at b;rw[iff2.2 (iff3.2 Y)]
  .exact YE
 .refine aQ (.bool false) U ⟨bad λh=>?_,x3⟩;have:=iff2.1 h;unfold kindOk at this;rw[aso k1,aso k2,aso k3] at this;exact Bool.noConfusion this
abbrev refusal(e:Int):List PanicEntry:=[{v:=.iface 360 (iv e),recovered:=false}]
theorem QM{ok:Bool}:uj prog 136 #[.bool ok,iv e] w (λv w'=>v=.tuple #[]/\ok=true/\w'=w) (λch w'=>ok=false/\w'=w/\ch=refusal e):=by
 apply vK func136 Z;exact X9
theorem vU{ok:Bool}{K:VK}{X:XK}(z:ok=true->K (.tuple #[]) w)(u:ok=false->X (refusal e) w):vF prog 136 #[.bool ok,iv e] K X w:=by
 refine rz QM ?_ ?_
 .exact Yg
 .exact Yg
end
def iW:Nat->List Reach->Bool
 |_,[]=>true
 |i,x::l=>(qf i x.up&&gQ x)&&iW (i+1) l
def uM(x:NS):Bool:=dS x.UQ 0 1048576
def nD(nr nc:Nat)(x:zk):Bool:=(if 0<x.zl then dS x.BC 0 ((nc:Int)-1) else decide (x.BC= -1))&&(dS x.aZ 0 ((nr:Int)-1)&&dS x.zl 0 1048576)
def rH(nf nr:Nat)(h:Int)(x:BD):Bool:=dS x.aO 0 ((nf:Int)-1)&&(dS x.aZ 0 ((nr:Int)-1)&&dS x.due 0 h)
def xT(d:aU):Bool:=dS d.aG 1 4096&&(dS d.bH 0 d.cap&&(decide (d.cap<=1099511627776)&&decide (0<d.aD.length)))
theorem ig:xT d=true↔(1<=d.aG/\d.aG<=4096)/\(0<=d.bH/\d.bH<=d.cap)/\d.cap<=1099511627776/\0<d.aD.length:=by unfold xT;simp only[asv,asy,bO]
def gH(d:aU):Bool:=xT d&&(iW 0 d.aD&&(d.mO.all uM&&(d.aR.all (nD d.aD.length d.mO.length)&&(d.bn.all (jF d.aR.length d.aD.length d.aG)&&d.ed.all (rH d.aR.length d.aD.length d.aG)))))
theorem dA:gH d=true↔xT d=true/\iW 0 d.aD=true/\d.mO.all uM=true/\d.aR.all (nD d.aD.length d.mO.length)=true/\d.bn.all (jF d.aR.length d.aD.length d.aG)=true/\d.ed.all (rH d.aR.length d.aD.length d.aG)=true:=by
 unfold gH;simp only[asv]
section
variable {D:Nat->Prop} {w:World}
theorem NZ{d:aU}{cs:aW}{e:Int}(hd:iG D w cs d):uj prog 137 #[.agg cs.toArray,iv e] w (λv w'=>v=.tuple #[]/\gH d=true/\ax w w') (λch w'=>gH d=false/\ax w w'/\ch=refusal e):=by
 obtain⟨A1,n1,c1,A2,n2,c2,A3,n3,c3,A4,n4,c4,A5,n5,c5,A6,n6,c6,rfl,hr,hf,a8,af,hdu,b0⟩:=hd.ex;have l1:=hr.an;have l2:=hf.an;have l3:=a8.an;refine vK func137 Z ?_;have bad:¬(gH d=true)->gH d=false:=atl.2;refine box λg w1 h1=>?_;have bg:=h1.aS;have x1:=h1.ae;have zg:=h1.au;have hlt:=bg.lt;have aa:∀w2,ax w1 w2->xT d=true->True:=λ_ _ _=>Yt;refine go ?_;refine lit [iv 1,iv d.aG,iv 4096] λg3 w3 hb3=>?_;refine cR (gX (hb3.i0 [1,d.aG,4096])) (λa1=>?_) λa1=>?_;rotate_left
 .refine vU (λh=>Bool.noConfusion h) λ_=>?_;exactλ_ _=>⟨U,bad λh=>px.1 a1 (ig.1 (dA.1 h).1).1,x1.trans hb3.ae,U⟩
 have b3:=bg.ae hb3.ae;refine go ?_;refine lit [iv 0,iv d.bH,iv d.cap,iv 1099511627776] λg4 w4 hb4=>?_;have x4:=hb3.ae.trans hb4.ae;refine cR (gX (hb4.i0 [0,d.bH,d.cap,1099511627776])) (λa2=>?_) λa2=>?_;rotate_left
 .refine vU (λh=>Bool.noConfusion h) λ_=>λ_ _=>⟨U,bad λh=>pv.1 a2 (by have:=ig.1 (dA.1 h).1;omega),x1.trans x4,U⟩
 have b4:=bg.ae x4;refine go<|cD (λa3=>?_) λa3=>?_;rotate_left
 .refine vU (λh=>Bool.noConfusion h) λ_=>λ_ _=>⟨U,bad λh=>by have:=ig.1 (dA.1 h).1;omega,x1.trans x4,U⟩
 refine vU (λ_=>?_) λh=>Bool.noConfusion h;have a1:=pw.1 a1;have a2:=qh.1 a2;have hH:xT d=true:=ig.2 Y;clear a2 aa;refine go<|aM (λk:Nat=>[(40,iv (k:Int))]) (λk w'=>k<=n1/\ax w1 w'/\iW 0 d.aD=iW k (d.aD.drop k)) (λk _=>n1-k) 0 ⟨U,Yt⟩ ⟨Y,x4,U⟩ U ?_;rintro G k w5 ⟨hk,x5,he⟩;refine cD (λhlt=>?_) λhge=>?_
 .obtain⟨b,o,cs,x,rfl,-,hx,-,hc,rfl⟩:=(hr.ae (x1.trans x5)).au (show k<n1 from Y);rw[hx,iW] at he;refine Up ?_;intro q w6 h6 w7 hb7 k7 z7 z6;have zz:=x5.size;have x7:ax w1 w7:=(x5.trans h6.ae).ag k7 λb hb _ e=>Y;refine go ?_;refine dt (QK (i:=k) (x:=x)) (λw8 hq x8=>?_) λw8 hq x8=>?_
  .refine vU (λ_=>?_) λh=>Bool.noConfusion h;refine eD (by have:=hr.le;omega) ?_;exact YS
  .refine vU (λh=>Bool.noConfusion h) λ_=>?_;exactλ_ _=>⟨U,bad λh=>by have:=(dA.1 h).2.1;rw[he,hq] at this;exact Bool.noConfusion this,x1.trans (x7.trans x8),U⟩
 have hR:iW 0 d.aD=true:=by rw[he,ph Y];rfl
 clear he hge;refine go ?_;refine ld (aB A3 n3 c3) ((bg.ae x5).ai U) ?_;refine an ?_;refine aM (λk:Nat=>[(54,iv (k:Int))]) (λk w'=>k<=n3/\ax w1 w'/\d.mO.all uM=(d.mO.drop k).all uM) (λk _=>n3-k) 0 ⟨U,Yt⟩ ⟨Y,x5,U⟩ U ?_;rintro G k w9 ⟨hk,x9,he⟩;refine cD (λhlt=>?_) λhge=>?_
 .obtain⟨b,o,cs,x,rfl,-,hx,-,hc,rfl⟩:=(a8.ae (x1.trans x9)).au (show k<n3 from Y);rw[hx,atv] at he;refine Up ?_;intro q w6 h6 w7 hb7 k7 z7 z6;have zz:=x9.size;have x7:ax w1 w7:=(x9.trans h6.ae).ag k7 λb hb _ e=>Y;refine go ?_;refine lit [iv 0,iv x.UQ,iv 1048576] λg8 w8 V=>?_;refine cR (gX (V.i0 [0,x.UQ,1048576])) (λhq=>?_) λhq=>?_
  .refine vU (λ_=>?_) λh=>Bool.noConfusion h;refine eD (by have:=a8.le;omega) ?_;refine next (k+1) ⟨Yn,Yt⟩ ⟨Y,x7.trans V.ae,?_⟩ Y;rw[he,show uM x=true from zS.symm.trans hq];rfl
  .refine vU (λh=>Bool.noConfusion h) λ_=>?_;exactλ_ _=>⟨U,bad λh=>by have:=(dA.1 h).2.2.1;rw[he,show uM x=false from zS.symm.trans hq] at this;exact Bool.noConfusion this,x1.trans (x7.trans V.ae),U⟩
 have hC:d.mO.all uM=true:=by rw[he,ph (by have:=a8.an;omega)];rfl
 clear he hge;refine go ?_;refine ld (aB A2 n2 c2) ((bg.ae x9).ai U) ?_;refine an ?_;refine aM (λk:Nat=>[(68,iv (k:Int))]) (λk w'=>k<=n2/\ax w1 w'/\d.aR.all (nD d.aD.length d.mO.length)=(d.aR.drop k).all (nD d.aD.length d.mO.length)) (λk _=>n2-k) 0 ⟨U,Yt⟩ ⟨Y,x9,U⟩ U ?_;rintro G k w10 ⟨hk,a7,he⟩;refine cD (λhlt=>?_) λhge=>?_
 .obtain⟨b,o,cs,x,rfl,-,hx,-,hc,rfl⟩:=(hf.ae (x1.trans a7)).au (show k<n2 from Y);rw[hx,atv] at he;refine Up ?_;intro q w6 h6 w7 hb7 k7 z7 z6;have zz:=a7.size;have x7:ax w1 w7:=(a7.trans h6.ae).ag k7 λb hb _ e=>Y;have aq:=bg.ae x7;have ak:nD d.aD.length d.mO.length x=false->gH d=false:=λhq=>bad λh=>by have:=(dA.1 h).2.2.2.1;rw[he,hq] at this;exact Bool.noConfusion this
  have J:nD d.aD.length d.mO.length x=true↔(if 0<x.zl then dS x.BC 0 ((n3:Int)-1)=true else x.BC= -1)/\dS x.aZ 0 ((n1:Int)-1)=true/\(0<=x.zl/\x.zl<=1048576):=by unfold nD;rw[l1,l3,asv,asv,bO (n:=x.zl)];split<;>simp only[asy]
  have O:¬(nD d.aD.length d.mO.length x=true)->gH d=false:=λh=>ak (atl.2 h);refine go ?_;refine cE (λp1=>?ca) λp1=>?cb;all_goals
   refine go ?_;refine cD (λp2=>?_) λp2=>?_
  case' cb.refine_2=>
   refine vU (λh=>Bool.noConfusion h) λ_=>?_;exactλ_ _=>⟨U,O λh=>by have:=(J.1 h).1;rw[aso Y] at this;exact p1 this,x1.trans x7,U⟩
  case' ca.refine_1=>
   refine go ?_;refine cR km (λp3=>?_) λp3=>?_;rotate_left
   .refine vU (λh=>Bool.noConfusion h) λ_=>?_;exactλ_ _=>⟨U,O λh=>by have:=(J.1 h).1;rw[asp Y,p3] at this;exact Bool.noConfusion this,x1.trans x7,U⟩
   have hu:(if 0<x.zl then dS x.BC 0 ((n3:Int)-1)=true else x.BC= -1):=by rw[asp Y];exact p3
  case' cb.refine_1=>
   refine go ?_;refine cR km (λp3=>?_) λp3=>?_;rotate_left
   .refine vU (λh=>Bool.noConfusion h) λ_=>?_;exactλ_ _=>⟨U,O λh=>by have:=(J.1 h).1;rw[asp Y,p3] at this;exact Bool.noConfusion this,x1.trans x7,U⟩
   have hu:(if 0<x.zl then dS x.BC 0 ((n3:Int)-1)=true else x.BC= -1):=by rw[asp Y];exact p3
  case' ca.refine_2=>
   have hu:(if 0<x.zl then dS x.BC 0 ((n3:Int)-1)=true else x.BC= -1):=by rw[aso Y];exact p1
  all_goals
   refine go ?_;refine cR km (λp4=>?_) λp4=>?_;rotate_left
   .refine vU (λh=>Bool.noConfusion h) λ_=>?_;exactλ_ _=>⟨U,O λh=>by have:=(J.1 h).2.1;rw[p4] at this;exact Bool.noConfusion this,x1.trans x7,U⟩
   refine go ?_;refine lit [iv 0,iv x.zl,iv 1048576] λg8 w8 V=>?_;refine cR (gX (V.i0 [0,x.zl,1048576])) (λhq=>?_) λhq=>?_
   .refine vU (λ_=>?_) λh=>Bool.noConfusion h;refine eD (by have:=hf.le;omega) ?_;refine next (k+1) ⟨Yn,Yt⟩ ⟨Y,x7.trans V.ae,?_⟩ Y;rw[he,J.2 ⟨hu,p4,pw.1 hq⟩];rfl
   .refine vU (λh=>Bool.noConfusion h) λ_=>?_;exactλ_ _=>⟨U,O λh=>px.1 hq (J.1 h).2.2,x1.trans (x7.trans V.ae),U⟩
 have hF:d.aR.all (nD d.aD.length d.mO.length)=true:=by rw[he,ph Y];rfl
 clear he hge;refine go ?_;refine ld (aB A4 n4 c4) ((bg.ae a7).ai U) ?_;refine an ?_;refine aM (λk:Nat=>[(105,iv (k:Int))]) (λk w'=>k<=n4/\ax w1 w'/\d.bn.all (jF d.aR.length d.aD.length d.aG)=(d.bn.drop k).all (jF d.aR.length d.aD.length d.aG)) (λk _=>n4-k) 0 ⟨U,Yt⟩ ⟨Y,a7,U⟩ U ?_;rintro G k ay ⟨hk,a6,he⟩;refine cD (λhlt=>?_) λhge=>?_
 .obtain⟨b,o,cs,x,rfl,-,hx,-,hc,rfl⟩:=(af.ae (x1.trans a6)).au (show k<n4 from Y);rw[hx,atv] at he;refine Up ?_;intro q w6 h6 w7 hb7 k7 z7 z6;have zz:=a6.size;have x7:ax w1 w7:=(a6.trans h6.ae).ag k7 λb hb _ e=>Y;refine fj [.string d.name,iv d.aG,iv d.cap,iv d.bH,aB A1 n1 c1,aB A2 n2 c2,aB A3 n3 c3,aB (some (ad b o)) n4 c4,aB A5 n5 c5,aB A6 n6 c6] (.aS (bg.ae x7)) U ?_;refine go ?_;refine dt (QL (d:=d) (x:=x) (hd.ae (x1.trans x7)) a1) (λw8 hq x8=>?_) λw8 hq x8=>?_
  .refine vU (λ_=>?_) λh=>Bool.noConfusion h;refine eD (by have:=af.le;omega) ?_;exact YS
  .refine vU (λh=>Bool.noConfusion h) λ_=>?_;exactλ_ _=>⟨U,bad λh=>by have:=(dA.1 h).2.2.2.2.1;rw[he,hq] at this;exact Bool.noConfusion this,x1.trans (x7.trans x8),U⟩
 have hG:d.bn.all (jF d.aR.length d.aD.length d.aG)=true:=by rw[he,ph (by have:=af.an;omega)];rfl
 clear he hge;refine go ?_;refine ld (aB A5 n5 c5) ((bg.ae a6).ai U) ?_;refine an ?_;refine aM (λk:Nat=>[(118,iv (k:Int))]) (λk w'=>k<=n5/\ax w1 w'/\d.ed.all (rH d.aR.length d.aD.length d.aG)=(d.ed.drop k).all (rH d.aR.length d.aD.length d.aG)) (λk _=>n5-k) 0 ⟨U,Yt⟩ ⟨Y,a6,U⟩ U ?_;rintro G k av ⟨hk,x12,he⟩;refine cD (λhlt=>?_) λhge=>?_
 .obtain⟨b,o,cs,x,rfl,-,hx,-,hc,rfl⟩:=(hdu.ae (x1.trans x12)).au (show k<n5 from Y);rw[hx,atv] at he;refine Up ?_;intro q w6 h6 w7 hb7 k7 z7 z6;have zz:=x12.size;have x7:ax w1 w7:=(x12.trans h6.ae).ag k7 λb hb _ e=>Y;have aq:=bg.ae x7;have J:rH d.aR.length d.aD.length d.aG x=true↔dS x.aO 0 ((n2:Int)-1)=true/\dS x.aZ 0 ((n1:Int)-1)=true/\(0<=x.due/\x.due<=d.aG):=by unfold rH;rw[l1,l2,asv,asv,bO (n:=x.due)]
  have O:¬(rH d.aR.length d.aD.length d.aG x=true)->gH d=false:=λhq=>bad λh=>by have:=(dA.1 h).2.2.2.2.2;rw[he,atl.2 hq] at this;exact Bool.noConfusion this
  refine go ?_;refine cR km (λb1=>?_) λb1=>?_;rotate_left
  .refine vU (λh=>Bool.noConfusion h) λ_=>?_;exactλ_ _=>⟨U,O λh=>by have:=(J.1 h).1;rw[b1] at this;exact Bool.noConfusion this,x1.trans x7,U⟩
  refine go ?_;refine cR km (λb2=>?_) λb2=>?_;rotate_left
  .refine vU (λh=>Bool.noConfusion h) λ_=>?_;exactλ_ _=>⟨U,O λh=>by have:=(J.1 h).2.1;rw[b2] at this;exact Bool.noConfusion this,x1.trans x7,U⟩
  refine go ?_;refine lit [iv 0,iv x.due,iv d.aG] λg8 w8 V=>?_;refine cR (gX (V.i0 [0,x.due,d.aG])) (λhq=>?_) λhq=>?_
  .refine vU (λ_=>?_) λh=>Bool.noConfusion h;refine eD (by have:=hdu.le;omega) ?_;refine next (k+1) ⟨Yn,Yt⟩ ⟨Y,x7.trans V.ae,?_⟩ Y;rw[he,J.2 ⟨b1,b2,pw.1 hq⟩];rfl
  .refine vU (λh=>Bool.noConfusion h) λ_=>?_;exactλ_ _=>⟨U,O λh=>px.1 hq (J.1 h).2.2,x1.trans (x7.trans V.ae),U⟩
 have hU:d.ed.all (rH d.aR.length d.aD.length d.aG)=true:=by rw[he,ph (by have:=hdu.an;omega)];rfl
 exact mD ⟨U,dA.2 ⟨hH,hR,hC,hF,hG,hU⟩,x1.trans x12⟩
theorem QO:aK prog 135 #[.iface 360 (iv e)] w (λv u=>v=iv e/\u=w):=by
 refine aF func135 Z<|tAs U Z<|aQ _ U ⟨U,U⟩
end
section
variable {P:Program}
def BH(P:Program)(fn:Func)(R2:Ending->World->Prop):KK:=λe F ds w=>∀(tmps:Array Value) (w0:World),(∀t,tmps.getD t undef=F t)->z w0=w->match e with
 | .normal| .ret=>LeavesInM Fence.wide 0 P fn tmps R2 ds .returning w0
 | .panic ch=>LeavesInM Fence.wide 0 P fn tmps R2 ds (.panicking ch) w0
 |_=>False
theorem vV{args:aW}(hle:args.length<=n):tJ n {tmps:=args.toArray++Array.replicate (n-args.toArray.size) undef,defers:=[]} (init args) []:=by
 refine⟨by simp;omega,λt=>?_,rfl⟩;rw[xL];simp only[ate,asC];by_cases u:t<args.length
 .rw[atZ (by simpa using u)];simp
 .exact Yg
theorem N3{fn:Func}{R2:Ending->World->Prop}{n:Nat}{e:Exit}{a:Act}{w0:World}(h:KQ n (BH P fn R2) e a w0):bodyPostM Fence.wide 0 P fn R2 e a w0:=by
 obtain⟨z,u,hk⟩:=h;have:=hk a.tmps w0 u.2.1 rfl;cases e with
 |normal=>exact this
 |ret=>exact this
 |panic ch=>exact this
 |_=>exact this.elim
abbrev oMk(d0 G c0:Nat)(t:TypeId)(p:String)(af:Array Edge):Oper:={dst:=some d0,op:=.makeFunc (.func G) #[] #[.tmp c0],type:=t,pos:=p,after:=af,guard:=none}
abbrev oDf(d0:Nat)(t:TypeId)(p:String)(af:Array Edge):Oper:={dst:=none,op:=.defer {callee:=.value (.tmp d0),args:=#[],argTypes:=#[]},type:=t,pos:=p,after:=af,guard:=none}
theorem QP{f:FuncId}{fn:Func}{args:aW}{w:World}{R2:Ending->World->Prop}{x y:Code}{id d0 G c0:Nat}{t1 t2:TypeId}{p1 p2:String}{a1 a2:Array Edge}(hf:P.funcs[f]? =some fn)(hb:fn.body=some (.seq x (.seq (.region id #[oMk d0 G c0 t1 p1 a1,oDf d0 t2 p2 a2] false) y)))(hok:(AU fn.ntmps x&&AU fn.ntmps y&&Nat.ble args.length fn.ntmps&&Nat.blt d0 fn.ntmps)=true)(h:V P x (λe F ds w'=>match e with
   | .normal=>ds=[]/\V P y (BH P fn R2) (fH F d0 (.func (.func G) #[] #[F c0])) [{target:=.fn (.func G) #[F c0],args:=#[]}] w'
   |_=>False) (init args) [] w) (w0:World) (hw:z w0=w):CallsIn Fence.wide 0 P f args.toArray w0 R2:=by
 have J:=ft hok
 have O:=ft J.1
 have hok2:=ft O.1
 have hle:=asB O.2
 have hd0:d0<fn.ntmps:=asB J.2
 subst hw
 refine au5 (F:=Fence.wide) hf hb Yt<|awr (at0 (eP (r:=none) x hok2.1 _ _ [] w0 _ (.inl rfl) (vV hle) h) λe a w1 hq=>?_)
 obtain⟨F',hg,hk⟩:=hq
 cases e with
 |normal=>
  obtain⟨hd,hk⟩:=hk
  refine awr (wpIn_region ?_)
  have hF:a.tmps.getD c0 undef=F' c0:=hg.2.1 c0
  have a6:tJ fn.ntmps (a.put (some d0) (.func (.func G) #[] #[F' c0])) (fH F' d0 (.func (.func G) #[] #[F' c0])) a.defers:=hg.put (d:=some d0) (λj hj=>by cases hj;exact hd0) _
  have hl:List.range (#[oMk d0 G c0 t1 p1 a1,oDf d0 t2 p2 a2]:Array Oper).size=[0,1]:=rfl
  rw[hl]
  refine⟨λ_ _=>Yt,?_⟩
  have e1:((oMk d0 G c0 t1 p1 a1).semAt Fence.wide.round a.eval).run P w1=.ok (.value (.func (.func G) #[] #[F' c0])) w1:=by
   rw[show Fence.wide.round=none from rfl,awB]
   show(execOp a.eval (oMk d0 G c0 t1 p1 a1)).run P w1=_
   rw[hg.eval]
   simp[execOp,Instr.makeFunc,ev]
  show Oper.uponIn Fence.wide 0 P (oMk d0 G c0 t1 p1 a1) a _ _ (((oMk d0 G c0 t1 p1 a1).semAt Fence.wide.round a.eval).run P w1)
  rw[e1]
  refine⟨λ_ _=>Yt,?_⟩
  have e2:((oDf d0 t2 p2 a2).semAt Fence.wide.round (a.put (some d0) (.func (.func G) #[] #[F' c0])).eval).run P w1=.ok (.defer {target:=.fn (.func G) #[F' c0],args:=#[]}) w1:=by
   rw[show Fence.wide.round=none from rfl,awB]
   show(execOp (a.put (some d0) (.func (.func G) #[] #[F' c0])).eval (oDf d0 t2 p2 a2)).run P w1=_
   rw[a6.eval]
   have:ev (fH F' d0 (.func (.func G) #[] #[F' c0])) (.tmp d0)=.func (.func G) #[] #[F' c0]:=by
    show(bif Nat.beq d0 d0 then _ else _)=_
    rw[auw];rfl
   show(execOp (ev (fH F' d0 (.func (.func G) #[] #[F' c0]))) (oDf d0 t2 p2 a2)).run P w1=_
   show((do pure (.defer (<-resolve (ev (fH F' d0 (.func (.func G) #[] #[F' c0]))) {callee:=.value (.tmp d0),args:=#[],argTypes:=#[]} t2)):Sem Next)).run P w1=_
   simp[resolve,this,Deferred.ofValue]
  show Oper.uponIn Fence.wide 0 P (oDf d0 t2 p2 a2) (a.put (some d0) (.func (.func G) #[] #[F' c0])) _ _ (((oDf d0 t2 p2 a2).semAt Fence.wide.round (a.put (some d0) (.func (.func G) #[] #[F' c0])).eval).run P w1)
  rw[e2]
  show y.wpIn Fence.wide 0 P (bodyPostM Fence.wide 0 P fn R2) _ w1
  have hds:=hd
  have hg2:tJ fn.ntmps {(a.put (some d0) (.func (.func G) #[] #[F' c0])) with defers:={target:=.fn (.func G) #[F' c0],args:=#[]}::a.defers} (fH F' d0 (.func (.func G) #[] #[F' c0])) [{target:=.fn (.func G) #[F' c0],args:=#[]}]:=⟨a6.1,a6.2.1,by rw[hds]⟩
  exact Yp
 |_=>exact hk.elim
theorem HU{Q:Exit->Act->List Frame->World->Prop}{ops:Array Oper}{i:Nat}{rest:List Nat}{o:Oper}{a:Act}{cs:List Frame}{w:World}(A:ops[i]? =some o)(J:o.guard=none)(he:(execOp a.eval o).run P w=.ok .recover w)(h1:∀v u,recoverD cs=some (v,u)->wpOpsSIn Fence.wide 0 P ops Q rest (a.put o.dst v) u w)(M:recoverD cs=none->wpOpsSIn Fence.wide 0 P ops Q rest (a.put o.dst .nilIface) cs w):wpOpsSIn Fence.wide 0 P ops Q (i::rest) a cs w:=by
 unfold wpOpsSIn;rw[A];dsimp only;refine⟨λ_ _=>Yt,?_⟩;rw[asp (by simp[Region.wanted,J]),he];dsimp only;cases z:recoverD cs with
 |none=>exact M z
 |some p=>exact h1 p.1 p.2 z
theorem QQ{Q:Exit->Act->List Frame->World->Prop}{ops:Array Oper}{rest:List Nat}{o:Oper}{a:Act}{cs:List Frame}(u:ops[i]? =some o)(z:o.guard=none)(he:(execOp a.eval o).run P w=.ok (.value v) w)(h1:wpOpsSIn Fence.wide 0 P ops Q rest (a.put o.dst v) cs w):wpOpsSIn Fence.wide 0 P ops Q (i::rest) a cs w:=by
 unfold wpOpsSIn;rw[u];dsimp only;refine⟨λ_ _=>Yt,?_⟩;rw[asp (by simp[Region.wanted,z]),he];exact h1
abbrev UY(d0:Nat)(t:TypeId)(p:String)(af:Array Edge):Oper:={dst:=some d0,op:=.call {callee:=.builtin .recover,args:=#[],argTypes:=#[]},type:=t,pos:=p,after:=af,guard:=none}
abbrev oAs(d1 d0:Nat)(t:TypeId)(p:String)(af:Array Edge):Oper:={dst:=some d1,op:=.assign (.tmp d0),type:=t,pos:=p,after:=af,guard:=none}
def Xx(P:Program)(fn:Func)(u:FrameMode)(R:Ending->FrameMode->World->Prop):KK:=λe F ds w=>ds=[]/\∀(tmps:Array Value) (w0:World),(∀t,tmps.getD t undef=F t)->z w0=w->match e with
 | .normal| .ret=>∃v,(results fn tmps).run P w0=.ok v w0/\R (.returned v) u w0
 |_=>False
theorem HV{f:FuncId}{fn:Func}{args:aW}{R:Ending->FrameMode->World->Prop}{y:Code}{id d0 d1:Nat}{t1 t2:TypeId}{p1 p2:String}{a1 a2:Array Edge}{u u':FrameMode}(hf:P.funcs[f]? =some fn)(hb:fn.body=some (.seq (.region id #[UY d0 t1 p1 a1,oAs d1 d0 t2 p2 a2] false) y))(hok:(AU fn.ntmps y&&Nat.ble args.length fn.ntmps&&Nat.blt d0 fn.ntmps&&Nat.blt d1 fn.ntmps)=true)(hu:∀(c₀:Frame) (cs:List Frame),c₀.mode=u->(match recoverD (c₀::cs) with|some (x,cs')=>x=v/\cs'={c₀ with mode:=u'}::cs|none=>v=.nilIface/\u'=u))(w0:World)(h:V P y (Xx P fn u' R) (fH (fH (init args) d0 v) d1 v) [] (z w0)):CallsDIn Fence.wide 0 P f args.toArray u w0 R:=by
 have a7:=ft hok;have a8:=ft a7.1;have hok2:=ft a8.1;have hle:=asB hok2.2;have hd0:d0<fn.ntmps:=asB a8.2;have ak:d1<fn.ntmps:=asB a7.2;refine callsDIn_of_wpSIn hf hb Yt λc₀ cs a6=>?_;have J:=hu c₀ cs a6;have hg:tJ fn.ntmps {tmps:=args.toArray++Array.replicate (fn.ntmps-args.toArray.size) undef,defers:=[]} (init args) []:=vV hle;generalize ha:({tmps:=args.toArray++Array.replicate (fn.ntmps-args.toArray.size) undef,defers:=[]}:Act)=a at hg;have af:tJ fn.ntmps (a.put (some d0) v) (fH (init args) d0 v) []:=hg.put (d:=some d0) (λj hj=>by cases hj;exact hd0) _;have hg2:tJ fn.ntmps ((a.put (some d0) v).put (some d1) v) (fH (fH (init args) d0 v) d1 v) []:=af.put (d:=some d1) (λj hj=>by cases hj;exact ak) _;have hl:List.range (#[UY d0 t1 p1 a1,oAs d1 d0 t2 p2 a2]:Array Oper).size=[0,1]:=rfl;have e2:(execOp (a.put (some d0) v).eval (oAs d1 d0 t2 p2 a2)).run P w0=.ok (.value v) w0:=by
  rw[af.eval];show(pure (.value (ev (fH (init args) d0 v) (.tmp d0))):Sem Next).run P w0=_;have:ev (fH (init args) d0 v) (.tmp d0)=v:=by show(bif Nat.beq d0 d0 then _ else _)=_;rw[auw];rfl
  rw[this];rfl
 have e1:(execOp a.eval (UY d0 t1 p1 a1)).run P w0=.ok .recover w0:=rfl;have fin:∀cs',cs'={c₀ with mode:=u'}::cs->y.wpSIn Fence.wide 0 P (bodyPostS P fn c₀ cs R) ((a.put (some d0) v).put (some d1) v) cs' w0:=by rintro _ rfl;refine wpSIn_of_wpIn rfl (at0 (eP (r:=none) y hok2.1 _ _ [] w0 _ (.inl rfl) hg2 h) λe a' w' hq=>?_);exact aoI
 refine wpSIn_seq (wpSIn_region ?_);rw[hl];have O:∀cs',cs'={c₀ with mode:=u'}::cs->wpOpsSIn Fence.wide 0 P #[UY d0 t1 p1 a1,oAs d1 d0 t2 p2 a2] (Exit.thenS (y.wpSIn Fence.wide 0 P (bodyPostS P fn c₀ cs R)) (bodyPostS P fn c₀ cs R)) [1] (a.put (some d0) v) cs' w0:=by intro cs' aa;exact QQ (o:=oAs d1 d0 t2 p2 a2) rfl rfl e2 (fin cs' aa)
 refine HU (o:=UY d0 t1 p1 a1) rfl rfl e1 (λx cs' hr=>?_) λhr=>?_
 .rw[hr] at J;obtain⟨rfl,aa⟩:=J;exact O _ aa
 .rw[hr] at J;obtain⟨rfl,rfl⟩:=J;exact O _ (by subst a6;rfl)
end
def jc(d:aU):Bool:=!(decide (d.aD.length<=64)&&(decide (d.aR.length<=600)&&(decide (d.mO.length<=32)&&(decide (d.bn.length<=256)&&decide (d.ed.length<=256)))))
def cH(d:aU):Int:=if jc d then 2 else if gH d then 0 else 191
section
variable {P:Program} {X:XK}
theorem vW{u:TypeId}(hu:P.underlying t=some (.interface ms))(w:World):(Op.equal t (.iface u v) .nilIface).run P w=.ok false w:=by
 exact adv
theorem ur(hu:P.underlying t=some (.interface ms))(w:World):(Op.equal t .nilIface .nilIface).run P w=.ok true w:=by
 exact adv
theorem amK{u:TypeId}{c:Value}{z:Operand}{K:Value->Prop}(hu:P.underlying t=some (.interface ms))(k:K (.bool true)):AF P .neq t z (.const c) (.iface u v) .nilIface K:=by
 rw[ke];refine cW (λw=>?_) k;have h1:(eqGuard .neq t z (.const c) (.iface u v) .nilIface).run P w=.ok () w:=U;have A:binOp .neq t (.iface u v) .nilIface=(do pure (.bool (!(<-Op.equal t (.iface u v) .nilIface)))):=U;rw[asI,h1,A];simp only[asJ,asI,vW hu,atr];rfl
theorem abr{c:Value}{u:Operand}{K:Value->Prop}(hu:P.underlying t=some (.interface ms))(k:K (.bool false)):AF P .neq t u (.const c) .nilIface .nilIface K:=by
 rw[ke];refine cW (λw=>?_) k;have h1:(eqGuard .neq t u (.const c) .nilIface .nilIface).run P w=.ok () w:=by rw[eqGuard_nil_constR];rfl
 have z:binOp .neq t .nilIface .nilIface=(do pure (.bool (!(<-Op.equal t .nilIface .nilIface)))):=U;rw[asI,h1,z];simp only[asJ,asI,ur hu,atr];rfl
end
section
variable {D:Nat->Prop} {w:World}
theorem u20:Tryz.prog.underlying 20=some (.interface #[]):=Z
theorem amL{p:Nat}{x:Int}(O:aP (z w0) p 51 [iv x]):CallsDIn Fence.wide 0 prog 134 #[ptr p] (.panicking (refusal e)) w0 (λV u' J=>V=.returned (.tuple #[])/\u'=.panicking [{v:=.iface 360 (iv e),recovered:=true}]/\aP (z J) p 51 [iv e]/\aj (λb=>b≠p) (z w0) (z J)):=by
 refine HV (args:=[ptr p]) (d0:=2) (d1:=1) (v:=.iface 360 (iv e)) (u':=.panicking [{v:=.iface 360 (iv e),recovered:=true}]) func134 U Z ?_ w0 ?_
 .intro c₀ cs h;simp[recoverD,h,refusal]
 .refine amK u20<|aJ QO ?_;rintro _ _ ⟨rfl,rfl⟩;refine st1 O U λY A M=>⟨U,λtmps W _ u=>⟨.tuple #[],results_none U _ _ _,U,U,?_⟩⟩;subst u;exact⟨A,M⟩
theorem abt{p:Nat}:CallsDIn Fence.wide 0 prog 134 #[ptr p] .returning w0 (λJ u' A=>J=.returned (.tuple #[])/\u'=.returning/\z A=z w0):=by
 refine HV (args:=[ptr p]) (d0:=2) (d1:=1) (v:=.nilIface) (u':=.returning) func134 U Z ?_ w0 ?_
 .intro O cs h;simp[recoverD,h]
 .refine abr u20<|⟨U,λtmps M _ u=>⟨.tuple #[],results_none U _ _ _,U,U,u⟩⟩
abbrev R2(R:VK):Ending->World->Prop:=λe w'=>∃v,e=.returned v/\R v (z w')
theorem Xy(w0:World):(invoke (.fn (.func 134) #[ptr q]) #[]).run prog w0=.ok (.enter 134 #[ptr q]) w0:=(inferInstance:Enters prog 134).h #[ptr q] w0
theorem amM{x:Int}{F:Fr}{R:VK}{tmps:Array Value}(A:∀t,tmps.getD t undef=F t)(J:F 2=ptr q)(u:aP (z w0) q 51 [iv x])(k:R (iv x) (z w0)):LeavesInM Fence.wide 0 prog Tryz.f48 tmps (R2 R) [] .returning w0:=
 jv (a:={tmps:=tmps,defers:=[]}) (R:=R) (λv _ h=>⟨v,rfl,h⟩) A [] w0 (z w0) rfl (by
  show Hx _ _ (F 2) _ _
  rw[J]
  exact da _ (bj (u.ai rfl)) k)
theorem N4{x:Int}{F:Fr}{R:VK}(O:F 2=ptr q)(J:aP w q 51 [iv x])(k:R (iv x) w):BH prog Tryz.f48 (R2 R) .normal F [{target:=.fn (.func 134) #[ptr q],args:=#[]}] w:=by
 intro tmps w0 M hw;subst hw;refine⟨by simp,.inr ⟨(λh=>Bool.noConfusion h),_,_,134,#[ptr q],U,Xy w0,λ_ _=>Yt,abt.mono ?_⟩⟩;rintro e u A ⟨rfl,rfl,z⟩;show LeavesInM _ _ _ _ _ _ [] .returning A;exact amM M O (by rw[z];exact J) (by rw[z];exact k)
theorem HW{x:Int}{F:Fr}{R:VK}(V:F 2=ptr q)(M:aP w q 51 [iv x])(k:∀A,aj (λb=>b≠q) w A->R (iv e) A):BH prog Tryz.f48 (R2 R) (.panic (refusal e)) F [{target:=.fn (.func 134) #[ptr q],args:=#[]}] w:=by
 intro tmps w0 O hw;subst hw;refine⟨by simp,.inr ⟨(λh=>Bool.noConfusion h),_,_,134,#[ptr q],U,Xy w0,λ_ _=>Yt,(amL M).mono ?_⟩⟩;rintro W u J ⟨rfl,rfl,z,hk⟩;show LeavesInM _ _ _ _ _ _ [] .returning J;exact amM O V z (k _ hk)
theorem ko{cs:aW}(hd:iG D w cs d):aA 48 #[.agg cs.toArray] w (iv (cH d)):=by
 obtain⟨A1,n1,c1,A2,n2,c2,A3,n3,c3,A4,n4,c4,A5,n5,c5,A6,n6,c6,rfl,hr,hf,a7,a6,hdu,aa⟩:=hd.ex;have l1:=hr.an;have l2:=hf.an;have l3:=a7.an;have l4:=a6.an;have l5:=hdu.an;intro V O;refine QP (d0:=3) (c0:=2) (w:=w) func48 U Z ?_ V O;refine box λg w1 h1=>alloc λq w2 h2=>⟨U,?_⟩;have bg:=h1.aS.ae h2.ae;have x2:=h1.ae.trans h2.ae;have J:jc d=false↔n1<=64/\n2<=600/\n3<=32/\n4<=256/\n5<=256:=by unfold jc;rw[l1,l2,l3,l4,l5];simp
 have bad:¬(n1<=64/\n2<=600/\n3<=32/\n4<=256/\n5<=256)->cH d=2:=λh=>by unfold cH;rw[show jc d=true from by cases ht:jc d with|true=>rfl|false=>exact absurd (J.1 ht) h];rfl
 have zz:=h2.au;have z1:=h1.ae.size;have fin:∀{w5:World},ax w2 w5->∀w',aj (λb=>b≠q) w5 w'->ax w w':=λx5 w' k=>(x2.trans x5).ag k λb hb _ e=>Y;have qb:=h2.aS;refine go<|cD (λa1=>?_) λa1=>?_;rotate_left
 .exact TK
 refine go<|cD (λa2=>?_) λa2=>?_;rotate_left
 .exact TK
 refine go<|cD (λa3=>?_) λa3=>?_;rotate_left
 .exact TK
 refine go<|cD (λa4=>?_) λa4=>?_;rotate_left
 .exact TK
 refine go<|cD (λa5=>?_) λa5=>?_;rotate_left
 .exact TK
 refine vU (λ_=>?_) λh=>Bool.noConfusion h;have hT:=J.2 Y;refine go<|rz (NZ (e:=191) (hd.ae x2)) ?_ ?_
 .rintro _ w5 ⟨rfl,hv,x5⟩;refine st1 (qb.ae x5) U λw6 a8 k6=>N4 (R:=λv w'=>v=iv (cH d)/\ax w w') U a8 ⟨by unfold cH;rw[hT,hv];rfl,fin x5 _ k6⟩
 .rintro _ w5 ⟨hv,x5,rfl⟩;exactλF' hF'=>HW (R:=λv w'=>v=iv (cH d)/\ax w w') (hF' 2 U) (qb.ae x5) λw' k=>⟨by unfold cH;rw[hT,hv];rfl,fin x5 w' k⟩
end
def dB(d:aU)(k:Nat):Reach:=d.aD.getD k ⟨ByteArray.empty,0,0,0,0,0,⟨0,0⟩,⟨0,0⟩,⟨0,0⟩⟩
theorem jm{x:Reach}(h:d.aD[k]? =some x):dB d k=x:=by unfold dB;rw[asC,h];rfl
theorem iX:∀{l:List Reach} {i k:Nat} {r:Reach},iW i l=true->l[k]? =some r->qf (i+k) r.up=true/\gQ r=true
 |[],i,k,r,_,h=>by simp at h
 |y::l,i,0,r,u,h=>by
  simp at h;subst h
  unfold iW at u
  simp only[asv] at u
  exact u.1
 |y::l,i,k+1,r,u,h=>by
  unfold iW at u
  simp only[asv] at u
  have:=iX (i:=i+1) (k:=k) u.2 (by simpa using h)
  rwa [show i+1+k=i+(k+1) by omega] at this
structure zV (d:aU):Prop where
 up:∀(k:Nat) (x:Reach),d.aD[k]? =some x->-1<=x.up/\x.up<k
 dl:∀(k:Nat) (x:Reach),d.aD[k]? =some x->1<=x.bD/\x.bD<=16
theorem kp{d:aU}(h:cH d=0):zV d:=by
 have A:iW 0 d.aD=true:=by
  unfold cH at h;cases h1:jc d with
  |true=>rw[h1] at h;cases h
  |false=>
   rw[h1] at h;cases z:gH d with
   |false=>rw[z] at h;cases h
   |true=>unfold gH at z;simp only[asv] at z;simp_all
 refine⟨λk x u=>?_,λk x u=>(eu.1 (iX A u).2).1⟩;have:=(iX A u).1;unfold qf at this;split at this
 .have:=att this;omega
 .have:=bO.1 this;omega
def vX(d:aU):Nat->Int->Int
 |0,_=>0
 |f+1,r=>if r<0 then 0 else(dB d r.toNat).bD+vX d f (dB d r.toNat).up
theorem xU{d:aU}(h:zV d):∀(f:Nat) (r:Int),r<f->r<d.aD.length->vX d f r=vX d (r+1).toNat r
 |0,r,J,_=>by
  have:(r+1).toNat=0:=Y
  rw[this]
 |f+1,r,J,M=>by
  by_cases u:r<0
  .have:(r+1).toNat=0:=Y
   rw[this]
   unfold vX
   rw[asp u]
  .obtain⟨g,A⟩:∃g,(r+1).toNat=g+1:=⟨r.toNat,Y⟩
   rw[A]
   unfold vX
   rw[aso u,aso u]
   obtain⟨x,z⟩:=gx d.aD r.toNat (by omega:r.toNat<d.aD.length)
   have hu:=h.up _ _ z
   rw[jm z]
   rw[xU h f x.up Y Y,xU h g x.up Y Y]
 termination_by f=>f
 decreasing_by all_goals omega
def cG(d:aU)(r:Int):Int:=vX d (r+1).toNat r
theorem Ew(h:zV d){x:Reach}(u:d.aD[k]? =some x):cG d k=x.bD+cG d x.up:=by
 have hk:=(asr.1 u).1;have hu:=h.up _ _ u;unfold cG;rw[show((k:Int)+1).toNat=k+1 from Y];show(if(k:Int)<0 then 0 else(dB d ((k:Int)).toNat).bD+vX d k (dB d ((k:Int)).toNat).up)=_;rw[aso Y,show((k:Int)).toNat=k from Y,jm u,xU h k x.up Y Y]
def rJ(d:aU)(rs:aX):Int:=if cH d=0 then(if rs.all λr=>decide (0<=r/\r<d.aD.length) then 0 else 1) else cH d
section
variable {D:Nat->Prop} {w:World}
theorem BI{V:aW}{rs:aX}{c:Nat}(hd:iG D w V d)(hl:bS cO D w A n rs):aA 105 #[.agg V.toArray,aB A n c] w (iv (rJ d rs)):=by
 have l1:=hl.an;have hle:=hl.le;have a1:=hd;obtain⟨A1,n1,c1,A2,n2,c2,A3,n3,c3,A4,n4,c4,A5,n5,c5,A6,n6,c6,rfl,O,-⟩:=hd.ex;have lr:=O.an;refine aF func105 Z ?_;refine box λb w1 h1=>?_;have B:=h1.aS;refine go ?_;refine bW (ko (a1.ae h1.ae)) λw2 x2=>?_;have z:=h1.ae.trans x2;have B:=B.ae x2;obtain⟨e,he⟩:∃e,e=cH d:=⟨_,U⟩;rw[<-he];refine cN (λg=>?_) λg=>?_
 .exact aQ (iv e) U ⟨by unfold rJ;rw[<-he,aso g],z⟩
 have ce:rJ d rs=if rs.all λr=>decide (0<=r/\r<d.aD.length) then 0 else 1:=by unfold rJ;rw[<-he,asp g]
 refine an ?_;refine aM (λk:Nat=>[(15,iv (k:Int))]) (λk u=>k<=n/\w2=u/\∀r∈rs.take k,0<=r/\r<d.aD.length) (λk _=>n-k) 0 ⟨U,Yt⟩ ⟨Y,U,λr O=>by simp at O⟩ U ?_;rintro G k u ⟨hk,rfl,J⟩;refine cD (λM=>?_) λa6=>?_
 .have M:k<n:=Y;obtain⟨bl,o,cs,r,rfl,hq,-,-,hc,rfl,-⟩:=(hl.ae z).au M;have X:rs.take (k+1)=rs.take k++[r]:=by rw[asD,hq];rfl
  have no:¬(0<=r/\r<d.aD.length)->rJ d rs=1:=λh=>by rw[ce,aso];intro h2;exact h (att (asH.1 h2 r (asq hq)))
  refine idx k U M ?_;refine go ?_;refine cD (λg1=>?_) λg1=>?_
  .exact aQ (iv 1) U ⟨by rw[no Y],z⟩
  refine go ?_;refine cD (λg2=>?_) λg2=>?_
  .exact aQ (iv 1) U ⟨by rw[no Y],z⟩
  refine go ?_;refine next (k+1) ⟨Yn,Yt⟩ ⟨Y,U,λx W=>?_⟩ Y;rw[X,atf,asP] at W;rcases W with W|rfl
  .exact J x W
  .omega
 .rw[asx Y] at J;exact aQ (iv 0) U ⟨by rw[ce,asp (asH.2 λr O=>asE (J r O))],z⟩
theorem HX{X:aW}{l M b2:Nat}{D':Nat->Prop}(J:Int->World->Prop)(ht:zV d)(V:M≠b2)(hJ:∀r w z,J r w->aj (λx=>x≠M) w z->J r z)(A:∀(k:Nat) x w,d.aD[k]? =some x->J k w->iQ prog l [iv (k:Int)].toArray (λv z=>v=.bool true/\J x.up z/\aj D w z) w)(a8:D M)(a7:D b2)(a6:∀b,D' b->D b)(W:∀b,D' b->b≠M)(h1:aP w M 3 [iv r])(h2:aP w b2 31 X)(hd:iG D' w X d)(hr: -1<=r/\r<d.aD.length)(h0:J r w):aK prog 205 #[.func (.yield l) #[] #[],ptr M,ptr b2] w (λ_ z=>J (-1) z):=by
 obtain⟨A1,n1,c1,A2,n2,c2,A3,n3,c3,A4,n4,c4,A5,n5,c5,A6,n6,c6,rfl,O,-⟩:=hd.ex;have lr:=O.an;apply aF func205 Z;apply aM (λ_:Int=>[]) (λr u=>(-1<=r/\r<d.aD.length)/\aP u M 3 [iv r]/\aP u b2 31 [.string d.name,iv d.aG,iv d.cap,iv d.bH,aB A1 n1 c1,aB A2 n2 c2,aB A3 n3 c3,aB A4 n4 c4,aB A5 n5 c5,aB A6 n6 c6]/\bS lH D' u A1 n1 d.aD/\J r u) (λr _=>(r+1).toNat) r Yt ⟨hr,h1,h2,O,h0⟩ U;rintro G r u ⟨hr,B1,B2,hs,hj⟩;refine go ?_;refine cD (λg=>?_) λg=>?_
 .obtain⟨k,rfl⟩:∃k:Nat,r=k:=⟨r.toNat,Y⟩;obtain⟨x,hx⟩:=gx d.aD k Yg;refine go ?_;refine eA (A k x u hx hj) ?_;rintro _ u2 ⟨rfl,a1,k2⟩;have B1:=B1.ah k2 a8;have B2:=B2.ah k2 a7;have hs:=hs.ah k2 λb _ h=>a6 b h;have hu:=ht.up _ _ hx;obtain⟨bb,o,cs,y,rfl,hy,-,-,hc,rfl⟩:=hs.au (k:=k) Y;obtain rfl:x=y:=by rw[hx] at hy;injection hy
  refine go ?_;refine st1 B1 U λu3 B3 k3=>?_;exact next x.up Yt ⟨Y,B3,B2.ah k3 (Ne.symm V),hs.ah k3 λb _ h=>W b h,hJ _ _ _ a1 k3⟩ Y
 .obtain rfl:r= -1:=Y;exact mD hj
end
def jh(d:aU)(k:Nat):zk:=d.aR.getD k ⟨ByteArray.empty,0,0,0⟩
theorem jJ{x:zk}(h:d.aR[k]? =some x):jh d k=x:=by unfold jh;rw[asC,h];rfl
abbrev Pt:Type:=Bool×Nat
def isF(d:aU)(r:Int)(i:Nat):Bool:=decide ((jh d i).aZ=r)
def isC(d:aU)(r:Int)(i:Nat):Bool:=decide ((dB d i).up=r)
def rK(d:aU)(r:Int)(k:Nat):List Pt:=((List.range k).filter (isF d r)).map λi=>(true,i)
def tQ(d:aU)(r:Int)(k:Nat):List Pt:=((List.range k).filter (isC d r)).map λi=>(false,i)
def fF(d:aU)(r:Int):List Pt:=rK d r d.aR.length++tQ d r d.aD.length
theorem QR(h:(jh d k).aZ=r):rK d r (k+1)=rK d r k++[(true,k)]:=by
 unfold rK;rw[atn,atp,asK,auA (by unfold isF;exact asE h)];rfl
theorem UZ(h:¬(jh d k).aZ=r):rK d r (k+1)=rK d r k:=by
 unfold rK;rw[atn,atp,asK,au8 (by unfold isF;rw[asy];exact h)];simp
theorem QS(h:(dB d k).up=r):tQ d r (k+1)=tQ d r k++[(false,k)]:=by
 unfold tQ;rw[atn,atp,asK,auA (by unfold isC;exact asE h)];rfl
theorem U0(h:¬(dB d k).up=r):tQ d r (k+1)=tQ d r k:=by
 unfold tQ;rw[atn,atp,asK,au8 (by unfold isC;rw[asy];exact h)];simp
theorem rM:(rK d r k).length<=k:=by
 unfold rK;rw[asz];exact atI (auN _ _) Yg
theorem BJ:(tQ d r k).length<=k:=by
 unfold tQ;rw[asz];exact atI (auN _ _) Yg
theorem HY:(fF d r).length<=d.aR.length+d.aD.length:=by
 unfold fF;rw[asu];have:=rM (d:=d) (r:=r) (k:=d.aR.length);have:=BJ (d:=d) (r:=r) (k:=d.aD.length);omega
theorem HZ{p:Pt}:p∈rK d r k↔p.1=true/\p.2<k/\(jh d p.2).aZ=r:=by
 obtain⟨b,i⟩:=p;unfold rK isF;exact Yb
theorem H0{p:Pt}:p∈tQ d r k↔p.1=false/\p.2<k/\(dB d p.2).up=r:=by
 obtain⟨b,i⟩:=p;unfold tQ isC;exact Yb
theorem eU{p:Pt}:p∈fF d r↔(p.1=true/\p.2<d.aR.length/\(jh d p.2).aZ=r)\/(p.1=false/\p.2<d.aD.length/\(dB d p.2).up=r):=by
 unfold fF;rw[atf,HZ,H0]
theorem qk:(fF d r).Nodup:=by
 unfold fF;refine avD.2 ⟨?_,?_,λa ha b hb e=>?_⟩
 .exact Yr
 .exact Yr
 .subst e;have:=(HZ.1 ha).1;rw[(H0.1 hb).1] at this;cases this
theorem H2{l:aX}(h:∀c∈l,0<=c/\c<=1073741824)(hi:i<l.length):0<=bL l i/\bL l i<=1073741824:=by
 apply h _;unfold bL;rw[asC,asw hi];exact au0 _
theorem cY{l:aX}(h:l[i]? =some c):bL l i=c:=by unfold bL;rw[asC,h];rfl
theorem dX.PA{l:aX}{m:Mk}(h:dX E l m)(he:jX E l=0):Awd l E (λi=>dC m (bL l i) i):=by
 obtain⟨hlen,u,-⟩:=sX he;unfold dX at h;by_cases A:E=0
 .rw[aso λk=>k.2 A] at h;subst h;have z:∀c i,dC Mk.none c i=0:=λc i=>by unfold dC;rw[asp U]
  refine⟨λi hi=>?_,?_,λi k hi hk h1=>?_⟩
  .have:=H2 u hi;rw[z];omega
  .rw[pW (g:=λ_=>0) λi _=>z _ _,xQ,A]
  .rw[z] at h1;omega
 .rw[asp ⟨he,A⟩] at h;exact h.1.PA (λi hi=>(H2 u hi).1) h.2
theorem dX.uniq{l:aX}{m z:Mk}(h:dX E l m)(k:dX E l z):m=z:=by
 unfold dX at h k;by_cases A:jX E l=0/\E≠0
 .rw[asp A] at h k;obtain⟨hlen,u,-⟩:=sX A.1;exact h.1.uniq k.1 (λi hi=>(H2 u hi).1) (by rw[h.2,k.2])
 .exact Yg
theorem abu{m:Mk}{l:aX}(h:i<l.length):(NX m l)[i]? =some (dC m (bL l i) i):=by
 unfold NX;exact Ny
theorem Ex{m:Mk}{l:aX}(h:Awd l E λi=>dC m (bL l i) i)(u:∀c∈l,0<=c/\c<=1073741824)(hi:i<l.length):0<=dC m (bL l i) i/\dC m (bL l i) i<=1073741824:=by
 have h1:=h.b i hi;have z:=H2 u hi;omega
theorem N7{m:Mk}{l:aX}(h:Awd l E λi=>dC m (bL l i) i)(u:∀c∈l,0<=c/\c<=1073741824):∀x∈NX m l,jt x:=λx z=>by
 unfold NX at z;obtain⟨i,hi,rfl⟩:=asS.1 z;have:=Ex h u (as0.1 hi);unfold jt;omega
section
variable {D:Nat->Prop} {w:World}
abbrev vY(l:aX):Prop:=∀c∈l,0<=c/\c<=1073741824
end
theorem QT{m:Mk}{i:Int}(h:VM m)(k:0<=i/\i<664/\0<=c/\c<=1073741824):DL m i c=0:=by unfold DL;rw[asp h,asp k]
theorem bu.is{c:Nat}{e:TypeId}{xs:aX}(h:bu w0 w A n c e 1 (xs.map λk=>iv k))(u:∀x∈xs,jt x)(hle:n<=140737488355328):bS cO (λb=>w0.heap.size<=b) w A n xs:=h.ints u hle λ_ h=>h
section
variable {w:World}
theorem Ey{l:aX}{c:Nat}(X:bS cO D w A n l)(he:jX E l=0):aK prog 77 #[iv E,aB A n c] w (λv M=>∃m J u c',dX E l m/\v=.tuple #[aB J u c',iv 0]/\bS cO (λb=>w.heap.size<=b) M J u (NX m l)/\u<=c'/\ax w M/\u=l.length):=by
 obtain⟨hlen,z,h0,hs⟩:=sX he;have Z:=jl z;unfold aV at Z;have c1:=QJ (c:=c) X (show jt E by unfold jt;omega);intro w0 hw;apply(c1 w0 hw).mono;rintro e M ⟨v,V,hR⟩;refine⟨v,V,?_⟩;rcases hR with⟨h,-⟩|⟨-,m,J,u,c',hm,O,own,W⟩
 .exact absurd he h
 .exact⟨m,J,u,c',hm,O,own.is (N7 (hm.PA he) z) Y,own.le,own.ae,W⟩
end
theorem zW{l:aX}:jW (bL l) l.length=aV l:=by
 have:=Mg (l:=l) (f:=λc _=>c);rw[Gm] at this;exact this
def toF(late:Bool)(L c:Int):Int:=if late then c/2+max 0 (c-c/2-L+1) else max 0 (min (c/2) L)
def PB(late:Bool)(L:Int)(l:aX)(k:Nat):Int:=jW (λi=>toF late L (bL l i)) k
instance (m:Mk) (c i:Int):Decidable (m.level<=(if m.late then c-c/2 else c/2)/\pq m c i):=inferInstance
def rN(cl hs:aX)(p:Pt):Int:=if p.1 then bL cl p.2 else bL hs p.2
def dg(d:aU)(cl hs:aX)(r:Nat):aX:=(fF d r).map (rN cl hs)
def dD(x:Reach)(total:Int):Option Int:=if total=0 then some 0 else if total>1073741824 then none else if rG x total>1073741824 then none else some (max (rG x total) x.dM)
def dG(d:aU)(cl:aX):Nat->Option (aX)
 |0=>some (List.replicate d.aD.length 0)
 |k+1=>match dG d cl k with
  |none=>none
  |some hs=>match dD (dB d (d.aD.length-1-k)) (aV (dg d cl hs (d.aD.length-1-k))) with
   |none=>none
   |some v=>some (hs.set (d.aD.length-1-k) v)
def dT(d:aU)(cl:aX):Option (aX):=dG d cl d.aD.length
def oC(d:aU)(cl:aX):Bool:=decide (cl.length=d.aR.length)&&cl.all JT
def iJ(d:aU)(cl:aX):Int:=if cH d≠0 then cH d else if oC d cl then 0 else 410
def cut(d:aU)(r:Nat)(n:Int):Int:=if n<(dB d r).dM then 0 else n
def ji(d:aU)(cl hs hd:aX)(r:Nat):Int:=min (nC (dB d r) (bL hd r)) (aV (dg d cl hs r))
def DN(l:List Mk)(i:Nat):Mk:=l.getD i Mk.none
structure Xz (d:aU) (cl hs hd aw:aX) (mk:List Mk) (r:Nat):Prop where
 mark:dX (ji d cl hs hd r) (dg d cl hs r) (DN mk r)
 aO:∀k i,(fF d r)[k]? =some (true,i)->bL aw i=dC (DN mk r) (bL (dg d cl hs r) k) k
 child:∀k i,(fF d r)[k]? =some (false,i)->bL hd i=cut d i (dC (DN mk r) (bL (dg d cl hs r) k) k)
structure oQ (d:aU) (cl hs:aX) (E:Int) (hd aw:aX) (mk:List Mk):Prop where
 lh:hd.length=d.aD.length
 la:aw.length=d.aR.length
 lm:mk.length=d.aD.length
 top:bL hd 0=cut d 0 (min E (bL hs 0))
 au:∀r,r<d.aD.length->Xz d cl hs hd aw mk r
end Go.Proofs.YtakcjkbnfegidaaGreat
