/- Part. -/
import Derived.Test.YtakcjkbnfegidaaGreatPT15
import Derived.Test.YtakcjkbnfegidaaGreatRows
set_option linter.all false
set_option maxHeartbeats 8000000
namespace Go.Proofs.YtakcjkbnfegidaaGreat
open Go Go.RowKit Go.Proofs.Tryz
instance:fw prog 57 16:=⟨Z⟩
instance:fw prog 62 72:=⟨Z⟩
instance:fw prog 99 104:=⟨Z⟩
instance:fw prog 102 40:=⟨Z⟩
instance:fw prog 126 40:=⟨Z⟩
instance:fw prog 173 32:=⟨Z⟩
instance:fw prog 297 32:=⟨Z⟩
instance:fw prog 365 24:=⟨Z⟩
instance:fw prog 445 24:=⟨Z⟩
instance:fw prog 548 48:=⟨Z⟩
section
variable{e j s t:TypeId}{a b g i l m n o sz:Nat}{u w w0:World}{K:Value->Prop}{cs:aW}{F:Fr}{D:Nat->Prop}{kd:IntKind}{A:bZ}{r:Loop}{ds:List Deferred}{args:Array Value}{x:Int}
section
variable {P:Program} {α β:Type} {a:Ty α} {b:Ty β}
theorem aqb{k:IntKind}(h:intOf P t=some k):P.underlying t=some (.int k):=by
 unfold intOf at h;split at h<;>simp_all
instance axh {t:TypeId} [h:qO P t .i64]:Rd P t cO:=⟨λn=>⟨λ{H enc W cs x} hx _=>by
 obtain⟨k,rfl,_,hw⟩:=DataW.trod_int (aqb h.h) hx;refine⟨k,rfl,?_⟩;simp[Lit.wf,IntKind.min,IntKind.max,IntKind.signed,IntKind.bits] at hw;unfold jt;omega⟩⟩
theorem apZ{Q:Nat->α->Prop}:∀(n:Nat),(∀i,i<n->∃y,Q i y)->∃ys:List α,ys.length=n/\∀k y,ys[k]? =some y->Q k y
 |0,_=>⟨[],rfl,λk y h=>by simp at h⟩
 |n+1,h=>by
  obtain⟨ys,h1,J⟩:=apZ n λi hi=>h i (by omega)
  obtain⟨y,A⟩:=h n (by omega)
  refine⟨ys++[y],by simp[h1],λk z u=>?_⟩
  by_cases hk:k<n
  .rw[asR (by omega)] at u;exact J k z u
  .rw[asY (by omega)] at u
   have:k=n:=by
    have:=(asr.1 u).1
    simp at this;omega
   subst this
   simp[h1] at u;subst u;exact A
theorem ap8{A:Addr}(h:w.cells? 0 A n=some cs):cs.length=n/\∀j v,cs[j]? =some v->w.cell? (A.add j)=some v:=by
 unfold World.cells? at h;rw[asp (atc _)] at h;refine⟨by simpa using mapM_some_length h,λj v u=>?_⟩;have J:=mapM_some_length h;have z:j<n:=Yg;rw[mapM_some_get h j j (by simp[z]),u]
theorem ani{H:Type}{e:TypeId}:∀{l:List (DataW H)} {d:DataW H},d∈l->(DataW.weightsAll P e l).all (·<=reachBytes)=true->(d.weights P e).all (·<=reachBytes)=true
 |x::r,d,hd,h=>by
  unfold DataW.weightsAll at h
  rw[avZ,asv] at h
  rcases asM.1 hd with rfl|hd
  .exact h.1
  .exact ani hd h.2
theorem aqI{z:Nat}[hs:cu P t e sz][hb:fw P e z](X:0<a.sz)(hr:RdN P n e a)(ay:0<z):RdN P (n+1) t (Xg a X):=⟨λ{H enc W cs x} hx hw=>by
 obtain⟨hu,i,hi,_⟩:=dF hs.h;rcases DataW.trod_slice hu hx with⟨rfl,rfl⟩|⟨A,an,cap,elems,rest,m,hm,rfl,rfl,_,hle,_,hlen,af,b0,_⟩
 .exact⟨[],none,0,0,rfl,.nil,asN _⟩
 .obtain rfl:n=m:=by omega
  dsimp only at hw;rw[DataW.weights,hu] at hw;dsimp only at hw;rw[atv,asv,avZ,asv] at hw;obtain⟨aa,a8,_⟩:=hw;have aE:P.bytesOf e=z:=by have:=hb.h;unfold bytesOf at this;unfold Program.bytesOf;rw[this];rfl
  rw[aE,asz,asz,asy] at aa;have hbound:an<=140737488355328:=by have h1:an*1<=(elems.length+rest.length)*z:=atK Y ay;have h2:reachBytes<=140737488355328:=Yd;omega
  have M:∀k,k<an->∃y,∃cs,W.cells? 0 (A.add (k*P.cellsOf e)) (P.cellsOf e)=some cs/\a.uF amE W cs y:=λk hk=>by have h1:=af k hk;have a6:k<elems.length:=Y;rw[asw a6,Option.bind_eq_some_iff] at h1;obtain⟨c,hc,ht⟩:=h1;obtain⟨y,hy⟩:=hr.h ht (ani (List.mem_map_of_mem (au0 a6)) a8);exact⟨y,c,hc,hy⟩
  obtain⟨ys,a7,hy⟩:=apZ an M;refine⟨ys,some A,an,cap,rfl,⟨a7.symm,hbound,λk y a1=>?_⟩,hle⟩;obtain⟨c,hc,J⟩:=hy k y a1;obtain⟨aq,ao⟩:=ap8 hc;have ak:P.cellsOf e=a.sz:=by rw[<-aq];exact a.an J
  have h0:0<an:=by have:=(asr.1 a1).1;omega
  obtain⟨y0,c0,av,ab⟩:=M 0 h0;obtain⟨b1,u⟩:=ap8 av;have Z:0<c0.length:=Y;have V:=World.cell?_spot (u 0 _ (asw Z));obtain⟨bk,off,spot⟩:=A;have O:spot=none:=by simpa[Addr.add] using V
  subst O;refine⟨bk,off,c,rfl,Yt,λj v hv=>?_,J⟩;have:=ao j v hv;rw[show(⟨bk,off,none⟩:Addr)=ad bk off from rfl,ru,ru,ak] at this;exact this⟩
instance axA {t e:TypeId} {sz by_:Nat} [hs:cu P t e sz] [hb:fw P e by_] [hr:Rd P e a] {hpos:0<a.sz} [hby:NeZero by_]:Rd P t (Xg a hpos):=⟨λn=>by
 cases n with
 |zero=>exact⟨λ{H enc W cs x} hx _=>by simp[DataW.trod] at hx⟩
 |succ n=>exact aqI hpos (hr.h n) (Nat.pos_of_ne_zero hby.out)⟩
structure RdF (P:Program) (n:Nat) (fs:List Field) (o:Nat) (a:Ty α):Prop where
 h:∀{H:Type} {enc:TypeId×Value->H} {W:World} {cs:aW},(∀f∈fs,∃x,DataW.trod enc P W 0 (λ_=>true) true n f.type ((cs.drop f.offset).take (P.cellsOf f.type))=some x/\(x.1.weights P f.type).all (·<=reachBytes)=true)->
  cs.length=o+a.sz->∃y,a.uF amE W (cs.drop o) y
theorem ap2{l:aW}(h:(l.take n).length=m):l.take n=l.take m:=by
 rw[asF] at h;by_cases u:n<=l.length
 .exact Yg
 .exact Yg
theorem RdF.one{f:Field}(A:RdN P n f.type a)(J:f.offset=o):RdF P n [f] o a:=⟨λ{H enc W cs} M V=>by
 obtain⟨x,z,hw⟩:=M f ass;obtain⟨y,u⟩:=A.h z hw;rw[J] at u;have O:=ap2 (a.an u);rw[O,asx Yg] at u;exact⟨y,u⟩⟩
theorem RdF.cons{f:Field}{J:List Field}(V:RdN P n f.type a)(X:f.offset=o)(hs:RdF P n J (o+a.sz) b):RdF P n (f::J) o (pg a b):=⟨λ{H enc W cs} A Y=>by
 obtain⟨x,O,hw⟩:=A f ass;obtain⟨y,u⟩:=V.h O hw;rw[X] at u;have h2:=ap2 (a.an u);rw[h2] at u;obtain⟨z,M⟩:=hs.h (λg Z=>A g (ast _ Z)) (by rw[Y];show o+(a.sz+b.sz)=_;omega);refine⟨(y,z),(cs.drop o).take a.sz,cs.drop (o+a.sz),?_,u,M⟩;rw[<-av6,atk]⟩
theorem anl{H:Type}:∀{u:List TypeId} {ds:List (DataW H)} {j:Nat} {t:TypeId} {d:DataW H},u[j]? =some t->ds[j]? =some d->(DataW.weightsEach P u ds).all (·<=reachBytes)=true->(d.weights P t).all (·<=reachBytes)=true:=λh1 A h=>by
 rw[asH] at h|-;exactλn z=>h n (DataW.weights_mem_each h1 A n z)
theorem aqt{M:Array Field}(hu:P.underlying t=some (.struct M))(hc:P.cellsOf t=a.sz)(hf:RdF P n M.toList 0 a):RdN P (n+1) t a:=⟨λ{H enc W cs x} X hw=>by
 obtain⟨xs,m,hm,rfl,Z,V,A⟩:=DataW.trod_struct hu X;obtain rfl:n=m:=Y;dsimp only at hw;rw[DataW.weights,hu] at hw;dsimp only at hw;obtain⟨y,O⟩:=hf.h (W:=W) (enc:=enc) (λf J=>by
  obtain⟨i,hi⟩:=ath J;have z:M[i]? =some f:=by simpa using hi
  have h1:=A i f z;have u:i<xs.length:=by have:=(asV.1 z).1;omega
  rw[asw u] at h1;exact⟨_,h1,anl (j:=i) (by rw[as6,hi];rfl) (by rw[as6,asw u];rfl) hw⟩) (by rw[as9,Z,hc])
 exact⟨y,by rwa [at3] at O⟩⟩
theorem Rd.struct{t:TypeId}{u:Array Field}(hu:P.underlying t=some (.struct u))(J:P.cellsOf t=a.sz)(A:∀n,RdF P n u.toList 0 a):Rd P t a:=⟨λn=>by
 cases n with
 |zero=>exact⟨λ{H enc W cs x} z _=>by simp[DataW.trod] at z⟩
 |succ n=>exact aqt hu J (A n)⟩
theorem RdN.map{f:β->α}{g:α->β}(J:RdN P n t a)(u:∀x,f (g x)=x):RdN P n t (ZL a f):=⟨λ{H enc W cs x} A hw=>by
 obtain⟨y,z⟩:=J.h A hw;exact⟨g y,show a.uF amE W cs (f (g y)) from by rw[u];exact z⟩⟩
theorem Rd.map{f:β->α}{g:α->β}(z:Rd P t a)(u:∀x,f (g x)=x):Rd P t (ZL a f):=⟨λn=>(z.h n).map u⟩
variable {H:Type} {enc:TypeId×Value->H} {W:World} {base:Nat} {t:TypeId} {v:Value} {d:DataW H} {ps:List MemPlace}
theorem Rd.arg(u:Rd P t a)(h:DataW.Trod enc P W 0 (λ_=>true) true t v d ps)(hw:(d.weights P t).all (·<=reachBytes)=true):∃y,a.uF amE W v.cells.toList y:=by
 obtain⟨n,z⟩:=h;exact(u.h n).h z hw
theorem arn[A:dJ P t n](J:Rd P t a)(u:Value.okWide P W .any base t v)(h:DataW.Trod enc P W 0 (λ_=>true) true t v d ps)(hw:(d.weights P t).all (·<=reachBytes)=true):∃cs y,v=.agg cs.toArray/\a.uF amE W cs y:=by
 obtain⟨⟨M,hu,hd⟩,_⟩:=gu A.h;obtain⟨y,z⟩:=J.arg h hw;unfold Value.okWide at u;rw[hu] at u;have:∃cs,v=.agg cs:=Yg;obtain⟨cs,rfl⟩:=this;exact⟨cs.toList,y,by simp,by simpa[Value.cells] using z⟩
end
section
variable {P:Program}
theorem aK.calls{f:FuncId}{W:World}{R:VK}(h:aK P f args (z W) R):Calls P f args W (λe u=>∃v,e=.returned v/\R v (z u)):=avi.1 (h W rfl)
theorem ax.below{W:World}(h:ax (z W) (z u)):Below W.heap.size W u:=⟨h.os,h.tape,h.output,h.size,λk hk=>h.aS k hk Yt⟩
end
end
section
variable{w:World}{f i:Nat}{l:List Cm}
section
open Classical
theorem ze{D:Nat->Prop}{g n:Nat}{l:aX}(h:aP w g 3 (cJ l))(u:n=l.length)(z:∀v∈l,jt v)(hle:n<=100000)(A:D g):bS cO D w (aL g) n l:=jL (rest:=[]) (by rw[asT];exact h) u z (by omega) A
theorem JN{α:Type}{a:Ty α}{w:World}{D:Nat->Prop}{g:Nat}{t:TypeId}{cs:aW}{x:α}(h:aP w g t cs)(z:a.uF D w cs x)(J:D g):bS a D w (aL g) 1 [x]:=
 ⟨rfl,by decide,λk y u=>by
  match k,u with
  |0,u=>
   injection u with u
   subst u
   refine⟨g,0,cs,rfl,J,λj v A=>?_,z⟩
   rw[avW,as9]
   exact h.ai A
  |k+1,u=>cases u⟩
def anN(wb:World)(b0:Nat)(F:Fr)(w:World):Prop:=F 0=ptr b0/\aj (λb=>b≠b0) wb w/\∃css:aW,css.length=19/\aP w b0 42 css/\iu (λb=>b<w.heap.size) w css iN
def xk(D:aW)(wb:World)(b0 b2:Nat)(l:Array Bool)(F:Fr)(w:World):Prop:=(l.getD 15 false=false->I58 D wb b0 b2 l F w)/\(l.getD 15 false=true->anN wb b0 F w)
theorem xk.put{D:aW}{A u:World}{M J:Nat}{l:Array Bool}{F:Fr}{v:Value}(h:I58 D A M J l F w)(z:l.getD 15 false=false)(hi:i<15)(k:ax w u)(O:R58 D i v u):xk D A M J (l.setIfInBounds i true) (de F (some (27+i)) v) u:=⟨λ_=>h.put hi k O,λe=>by rw[getD_set_ne (by omega),z] at e;cases e⟩
section
variable {w:World}
theorem z4{g:Nat}{t:TypeId}(h:aP w g t (List.replicate 4 (cz (iv 0))).flatten):aP w g t Du:=h
set_option maxRecDepth 8000 in
theorem LK:aK prog 18 #[] w (λv w'=>∃av:aW,v=.agg av.toArray/\av.length=19/\ax w w'/\iu (λb=>b<w'.heap.size) w' av iN):=by
 refine aF (args:=[]) func18 Z<|alloc λO w1 h1=>hY [iv 0,iv 2] Z<|hY [iv 0,iv 1] Z<|hY [iv 0,iv 1] Z<|hY [iv 0,iv 1,iv 0,iv 1] Z<|hY kP.c Z<|alloc λb1 w2 h2=>jR (vs:=kP.c) h2.aS U Yl Ys λw3 B1 k3 _=>?_;have B1:aP w3 b1 99 kP.c:=B1;refine hY [iv 100,iv 8] Z<|fj kP.c (.aS B1) U<|lit [.agg kP.c.toArray] λJ w4 h4=>hY iy.c Z<|hY iy.c Z<|lit [.agg iy.c.toArray,.agg iy.c.toArray] λgf w5 h5=>hY [.string ByteArray.empty,iv 4,iv 100,iv 8,aB (aL J) 1 1,aB (aL gf) 2 2,aY,aY,aY,aY] Z<|alloc λb2 w6 h6=>jR (vs:=[.string ByteArray.empty,iv 4,iv 100,iv 8,aB (aL J) 1 1,aB (aL gf) 2 2,aY,aY,aY,aY]) h6.aS U Yl Ys λw7 B2 k7 _=>?_;have B2:aP w7 b2 31 [.string ByteArray.empty,iv 4,iv 100,iv 8,aB (aL J) 1 1,aB (aL gf) 2 2,aY,aY,aY,aY]:=B2;have t1:=h1.au;have t2:=h2.au;have t4:=h4.au;have t5:=h5.au;have t6:=h6.au;have s1:=h1.size;have s2:=h2.size;have s4:=h4.size;have s5:=h5.size;have s6:=h6.size;have z3:=k3.size;have z7:=k7.size;have x13:ax w1 w3:=h2.ae.ag k3 λb hb _ e=>Y;have a6:ax w5 w7:=h6.ae.ag k7 λb hb _ e=>Y;have bE:ax w3 w7:=(h4.ae.trans h5.ae).trans a6;have cb:ax w w7:=(h1.ae.trans x13).trans bE;have Br:aP w7 J 99 kP.c:=(show aP w4 J 99 kP.c from h4.aS).ae (h5.ae.trans a6);have Bf:aP w7 gf 102 (iy.c++iy.c):=(show aP w5 gf 102 (iy.c++iy.c) from h5.aS).ae a6;have B0:aP w7 O 42 _:=h1.aS.ae (x13.trans bE);apply aM (λk:Nat=>[(16,iv (k:Int))]) (λk u=>k<=2/\aj (λb=>b≠b2) w7 u/\∃A c,aP u b2 31 [.string ByteArray.empty,iv 4,iv 100,iv 8,aB (aL J) 1 1,aB (aL gf) 2 2,aY,aB A k c,aY,aY]/\bu w5 u A k c 171 10 ((List.range k).flatMap λi:Nat=>(mz (i:Int)).c)/\∀g,A=aL g->w7.heap.size<=g) (λk _=>2-k) 0 ⟨U,Yt⟩ ⟨Y,.refl _ _,none,0,B2,bu.nil a6,λg hg=>by cases hg⟩ U;rintro G k u ⟨hk,ku,A,c,B2,o,hA⟩;refine cD (λhlt=>?_) λhge=>?_
 .have hlt2:k<2:=by have:((k:Nat):Int)<2:=hlt;omega
  refine bC<|ld (aB A k c) (B2.ai U)<|hY (mz (k:Int)).c Z<|lit [.agg (mz (k:Int)).c.toArray] λgg v1 hq=>iI (o.ag hq.ae) (hq.src (sz:=10) U) Y λA' c' v2 o2 k2 cI=>bC<|st ((B2.ae hq.ae).ah k2 λe=>by have:=hA _ e;omega) (by simp) U λv3 B2 bA cL=>eD (n:=(k:Int)+1) Y ?_;have hA8:∀g,A'=aL g->w7.heap.size<=g:=λg hg=>by
   rcases cI with e|e|e
   .exact hA g (e.symm.trans hg)
   .rw[e] at hg;cases hg
   .rw[e] at hg;injection hg with hg;injection hg with hg;have:=hq.size;have:=ku.size;omega
  refine next (k+1) ⟨Yn,Yt⟩ ⟨Y,((ku.ag hq.ae λ_ _ _=>Yt).ag k2 λb hb _ e=>by have:=hA _ e;omega).ag bA λb _ h=>h,A',c',B2,?_,hA8⟩ Y;rw[atn,as7,ata,au2,asT];exact o2.bY bA (λg hg=>by have:=hA8 g hg;omega) (o2.ae.ag bA λb hb _=>Y)
 have hk2:k=2:=by have:¬((k:Nat):Int)<2:=hge;omega
 subst hk2;have zu:=ku.size;have cK:=B0.ah ku Y;have db:=Br.ah ku Y;have dd:=Bf.ah ku Y;have cw:iG (λb=>b≠O) u [.string ByteArray.empty,iv 4,iv 100,iv 8,aB (aL J) 1 1,aB (aL gf) 2 2,aY,aB A 2 c,aY,aY] d58:=by
  have cp:bS lH (λb=>b≠O) u (aL J) 1 [kP]:=((bu.lit (w0:=w3) (cs:=kP.c) (.refl _ _) h4 U).ag (h5.ae.trans a6)).bY ku (λg hg=>by injection hg with hg;injection hg with hg;omega) ((h4.ae.trans (h5.ae.trans a6)).ag ku λb hb _=>Y) |>.own.rd (a:=lH) (.one U) U Yd λg hg=>by injection hg with hg;injection hg with hg;omega
  have ck:bS yQ (λb=>b≠O) u (aL gf) 2 [iy,iy]:=((bu.lit (w0:=w4) (cs:=iy.c++iy.c) (.refl _ _) h5 U).ag a6).bY ku (λg hg=>by injection hg with hg;injection hg with hg;omega) ((h5.ae.trans a6).ag ku λb hb _=>Y) |>.own.rd (a:=yQ) ⟨iy.c,iy.c,U,U,iy.c,[],U,U,U⟩ U Yd λg hg=>by injection hg with hg;injection hg with hg;omega
  have cg:bS xR (λb=>b≠O) u A 2 [mz 0,mz 1]:=o.own.rd (a:=xR) ⟨(mz 0).c,(mz 1).c,U,U,(mz 1).c,[],U,U,U⟩ U Yd λg hg=>by have:=hA g hg;omega
  exact⟨_,_,_,_,_,_,_,_,_,_,_,_,_,_,_,_,_,_,U,cp,ck,.nil,cg,.nil,.nil⟩
 refine XR mx Z (xk [.string ByteArray.empty,iv 4,iv 100,iv 8,aB (aL J) 1 1,aB (aL gf) 2 2,aY,aB A 2 c,aY,aY] u O b2) ⟨λ_=>⟨.refl _ _,U,U,λj hj hl=>?_⟩,λh=>?_⟩ ?_ ?_
 .exfalso;rw[ate,au4] at hl;split at hl<;>cases hl
 .exfalso;rw[ate,au4] at h;split at h<;>cases h
 .intro l i F v hs hc hi hJ;have hrd:=nT hs hi;have hlt:i<16:=by have h:=hrd.1;rw[hs] at h;exact h
  have h15:i<15->l.getD 15 false=false:=λh=>FB Z hc hi hs h;have c8:l.getD 15 false=false:=by
   rcases auG i 15 with h|h
   .exact h15 h
   .have:i=15:=Y;subst this;exact hrd.2
  have I:=hJ.1 c8;match i,hlt with
  |0,_=>
   apply cA U;rw[<-aT I.f2];apply fj [.string ByteArray.empty,iv 4,iv 100,iv 8,aB (aL J) 1 1,aB (aL gf) 2 2,aY,aB A 2 c,aY,aY] (.aS (B2.ae I.ae)) U;show xk [.string ByteArray.empty,iv 4,iv 100,iv 8,aB (aL J) 1 1,aB (aL gf) 2 2,aY,aB A 2 c,aY,aY] u O b2 _ (de (fH F 2 _) (some 27) _) _;rw[aT I.f2];exact Ua
  |1,_=>
   refine cA U<|lit [iv 3,iv 3,iv 0,iv 0] λg v1 hq=>?_;show xk [.string ByteArray.empty,iv 4,iv 100,iv 8,aB (aL J) 1 1,aB (aL gf) 2 2,aY,aB A 2 c,aY,aY] u O b2 _ (de F (some 28) _) _;exact W7
  |2,_=>
   refine cA U<|i7 (sz:=1) (zv:=iv 0) 4 U rfl Y Y U Yd λg v1 hq=>?_;show xk [.string ByteArray.empty,iv 4,iv 100,iv 8,aB (aL J) 1 1,aB (aL gf) 2 2,aY,aB A 2 c,aY,aY] u O b2 _ (de F (some 29) _) _;exact xk.put I (h15 Yd) Yd hq.ae ⟨g,U,z4 hq.aS⟩
  |3,_=>
   obtain⟨a,br,hb⟩:=I.r 2 Yd (bc (b:=3) (i:=2) Z l hc hi);have br:F 29=_:=br;apply cA U;rw[<-aT br];refine lit [aB (aL a) 4 4] λg v1 hq=>?_;show xk [.string ByteArray.empty,iv 4,iv 100,iv 8,aB (aL J) 1 1,aB (aL gf) 2 2,aY,aB A 2 c,aY,aY] u O b2 _ (de (fH F 29 _) (some 30) _) _;rw[aT br];exact YJ
  |4,_=>
   refine cA U<|i7 (sz:=1) (zv:=iv 0) 4 U rfl Y Y U Yd λg v1 hq=>?_;show xk [.string ByteArray.empty,iv 4,iv 100,iv 8,aB (aL J) 1 1,aB (aL gf) 2 2,aY,aB A 2 c,aY,aY] u O b2 _ (de F (some 31) _) _;exact xk.put I (h15 Yd) Yd hq.ae ⟨g,U,z4 hq.aS⟩
  |5,_=>
   obtain⟨a,bp,hb⟩:=I.r 4 Yd (bc (b:=5) (i:=4) Z l hc hi);have bp:F 31=_:=bp;apply cA U;rw[<-aT bp];refine lit [aB (aL a) 4 4] λg v1 hq=>?_;show xk [.string ByteArray.empty,iv 4,iv 100,iv 8,aB (aL J) 1 1,aB (aL gf) 2 2,aY,aB A 2 c,aY,aY] u O b2 _ (de (fH F 31 _) (some 32) _) _;rw[aT bp];exact YJ
  |6,_=>
   obtain⟨a,bt,ha⟩:=I.r 1 Yd (bc (b:=6) (i:=1) Z l hc hi);have bt:F 28=_:=bt;obtain⟨b,p,bq,hb,hp⟩:=I.r 3 Yd (bc (b:=6) (i:=3) Z l hc hi);have bq:F 30=_:=bq;obtain⟨e,q',bo,he,aq⟩:=I.r 5 Yd (bc (b:=6) (i:=5) Z l hc hi);have bo:F 32=_:=bo;apply cA U;rw[<-aT bt];rw[<-aT bq];rw[<-aT bo];apply hY [aB (aL a) 4 4,aB (aL b) 1 1,aB (aL e) 1 1] Z;show xk [.string ByteArray.empty,iv 4,iv 100,iv 8,aB (aL J) 1 1,aB (aL gf) 2 2,aY,aB A 2 c,aY,aY] u O b2 _ (de (fH (fH (fH F 32 _) 30 _) 28 _) (some 33) _) _;rw[aT bo,aT bq,aT bt];exact xk.put I (h15 Yd) Yd (.refl _ _) ⟨a,b,e,p,q',U,ha,hb,hp,he,aq⟩
  |7,_=>
   refine cA U<|hY [iv 10,iv 20] Z ?_;show xk [.string ByteArray.empty,iv 4,iv 100,iv 8,aB (aL J) 1 1,aB (aL gf) 2 2,aY,aB A 2 c,aY,aY] u O b2 _ (de F (some 34) _) _;exact Ua
  |8,_=>
   obtain bg:=I.r 7 Yd (bc (b:=8) (i:=7) Z l hc hi);have bg:F 34=_:=bg;apply cA U;rw[<-aT bg];refine lit [.agg #[iv 10,iv 20]] λg v1 hq=>?_;show xk [.string ByteArray.empty,iv 4,iv 100,iv 8,aB (aL J) 1 1,aB (aL gf) 2 2,aY,aB A 2 c,aY,aY] u O b2 _ (de (fH F 34 _) (some 35) _) _;rw[aT bg];exact W7
  |9,_=>
   refine cA U<|lit [iv 10] λg v1 hq=>?_;show xk [.string ByteArray.empty,iv 4,iv 100,iv 8,aB (aL J) 1 1,aB (aL gf) 2 2,aY,aB A 2 c,aY,aY] u O b2 _ (de F (some 36) _) _;exact W7
  |10,_=>
   obtain⟨a,be,ha⟩:=I.r 8 Yd (bc (b:=10) (i:=8) Z l hc hi);have be:F 35=_:=be;obtain⟨b,ay,hb⟩:=I.r 9 Yd (bc (b:=10) (i:=9) Z l hc hi);have ay:F 36=_:=ay;apply cA U;rw[<-aT be];rw[<-aT ay];apply hY [iv 0,aB (aL a) 1 1,aB (aL b) 1 1] Z;show xk [.string ByteArray.empty,iv 4,iv 100,iv 8,aB (aL J) 1 1,aB (aL gf) 2 2,aY,aB A 2 c,aY,aY] u O b2 _ (de (fH (fH F 36 _) 35 _) (some 37) _) _;rw[aT ay,aT be];exact xk.put I (h15 Yd) Yd (.refl _ _) ⟨a,b,U,ha,hb⟩
  |11,_=>
   obtain⟨a,b,ak,ha,hb⟩:=I.r 10 Yd (bc (b:=11) (i:=10) Z l hc hi);have ak:F 37=_:=ak;apply cA U;rw[<-aT ak];refine lit [.agg #[iv 0,aB (aL a) 1 1,aB (aL b) 1 1]] λg v1 hq=>?_;show xk [.string ByteArray.empty,iv 4,iv 100,iv 8,aB (aL J) 1 1,aB (aL gf) 2 2,aY,aB A 2 c,aY,aY] u O b2 _ (de (fH F 37 _) (some 38) _) _;rw[aT ak];exact xk.put I (h15 Yd) Yd hq.ae ⟨g,a,b,U,hq.aS,ha.ae hq.ae,hb.ae hq.ae⟩
  |12,_=>
   refine cA U<|hY [iv 0,iv 0,iv 50,iv 1] Z ?_;show xk [.string ByteArray.empty,iv 4,iv 100,iv 8,aB (aL J) 1 1,aB (aL gf) 2 2,aY,aB A 2 c,aY,aY] u O b2 _ (de F (some 39) _) _;exact Ua
  |13,_=>
   obtain aa:=I.r 12 Yd (bc (b:=13) (i:=12) Z l hc hi);have aa:F 39=_:=aa;apply cA U;rw[<-aT aa];refine lit [.agg #[iv 0,iv 0,iv 50,iv 1]] λg v1 hq=>?_;show xk [.string ByteArray.empty,iv 4,iv 100,iv 8,aB (aL J) 1 1,aB (aL gf) 2 2,aY,aB A 2 c,aY,aY] u O b2 _ (de (fH F 39 _) (some 40) _) _;rw[aT aa];exact W7
  |14,_=>
   obtain bw:=I.r 0 Yd (bc (b:=14) (i:=0) Z l hc hi);have bw:F 27=_:=bw;obtain⟨a,b,e,p,q',bk,ha,hb,hp,he,aq⟩:=I.r 6 Yd (bc (b:=14) (i:=6) Z l hc hi);have bk:F 33=_:=bk;obtain⟨g,h,i',af,hg,hh,bx⟩:=I.r 11 Yd (bc (b:=14) (i:=11) Z l hc hi);have af:F 38=_:=af;obtain⟨s,a8,hs'⟩:=I.r 13 Yd (bc (b:=14) (i:=13) Z l hc hi);have a8:F 40=_:=a8;apply cA U;rw[<-aT bw];rw[<-aT bk];rw[<-aT af];rw[<-aT a8];apply hY ([.string ByteArray.empty,iv 4,iv 100,iv 8,aB (aL J) 1 1,aB (aL gf) 2 2,aY,aB A 2 c,aY,aY]++[iv 2,aY,aY,aY,aB (aL g) 1 1,aB (aL s) 1 1,aB (aL a) 4 4,aB (aL b) 1 1,aB (aL e) 1 1]) Z;show xk [.string ByteArray.empty,iv 4,iv 100,iv 8,aB (aL J) 1 1,aB (aL gf) 2 2,aY,aB A 2 c,aY,aY] u O b2 _ (de (fH (fH (fH (fH F 40 _) 38 _) 33 _) 27 _) (some 41) _) _;rw[aT a8,aT af,aT bk,aT bw];exact xk.put I (h15 Yd) Yd (.refl _ _) ⟨a,b,e,p,q',g,h,i',s,U,ha,hb,hp,he,aq,hg,hh,bx,hs'⟩
  |15,_=>
   obtain⟨a,b,e,p,q',g,h,i',s,a7,ha,hb,hp,he,aq,hg,hh,bx,hs'⟩:=I.r 14 Yd (bc (b:=15) (i:=14) Z l hc hi);have a7:F 41=_:=a7;apply cA U;rw[<-aT a7,<-aT I.f0];have V:=cK.ae I.ae;refine fg V λv1 C0 kc zc=>?_;have C0:aP v1 O 42 ([.string ByteArray.empty,iv 4,iv 100,iv 8,aB (aL J) 1 1,aB (aL gf) 2 2,aY,aB A 2 c,aY,aY]++[iv 2,aY,aY,aY,aB (aL g) 1 1,aB (aL s) 1 1,aB (aL a) 4 4,aB (aL b) 1 1,aB (aL e) 1 1]):=C0;have cT:aj (λb=>b≠O) v v1:=kc;show xk [.string ByteArray.empty,iv 4,iv 100,iv 8,aB (aL J) 1 1,aB (aL gf) 2 2,aY,aB A 2 c,aY,aY] u O b2 _ (de (fH (fH F 0 _) 41 _) none _) _;rw[aT I.f0,aT a7];have kuv:aj (λb=>b≠O) u v1:=(ax.any I.ae).trans kc;refine⟨λe=>?_,λ_=>⟨I.f0,kuv,_,U,C0,?_⟩⟩
   .exact YF
   have ha':=ha.ah kc (oZ ha V Yd);have hb':=hb.ah kc (oZ hb V Yd);have bG:=hp.ah kc (oZ hp V Yd);have he':=he.ah kc (oZ he V Yd);have hq2:=aq.ah kc (oZ aq V Yd);have hg':=hg.ah kc (oZ hg V Yd);have bT:=hh.ah kc (oZ hh V Yd);have bI:=bx.ah kc (oZ bx V Yd);have hs2:=hs'.ah kc (oZ hs' V Yd);have i0:∀v∈([0,0,0,0]:aX),jt v:=λv hv=>by
    have:v=0:=by simpa using hv
    subst this;unfold jt;omega
   have i3:∀v∈([3,3,0,0]:aX),jt v:=λv hv=>by
    have:v=3\/v=0:=by simp at hv;omega
    unfold jt;omega
   have cr:∀v∈([10]:aX),jt v:=λv hv=>by
    have:v=10:=by simpa using hv
    subst this;unfold jt;omega
   refine⟨[.string ByteArray.empty,iv 4,iv 100,iv 8,aB (aL J) 1 1,aB (aL gf) 2 2,aY,aB A 2 c,aY,aY],none,0,0,none,0,0,none,0,0,aL g,1,1,aL s,1,1,aL a,4,4,aL b,1,1,aL e,1,1,U,(cw.ah kuv λb _ h=>h).ar λb hb _=>hb,.nil,.nil,.nil,JN hg' (Jz (x:=⟨0,[⟨10,20⟩],[10]⟩) (JN bT U bT.lt) (ze bI U cr Yd bI.lt) (asN _) (asN _) (by unfold jt;decide)) hg'.lt,JN hs2 U hs2.lt,ze ha' U i3 Yd ha'.lt,JN hb' ⟨_,_,_,U,ze bG U i0 Yd bG.lt,asN _⟩ hb'.lt,JN he' ⟨_,_,_,U,ze hq2 U i0 Yd hq2.lt,asN _⟩ he'.lt,asN _,asN _,asN _⟩
  |n+16,h=>omega
 .intro l F v hs hr hc hJ;have h15:=vr hs Z hr 16 15 Yd Yl;obtain⟨ct,kf,av,hcl,C0,hS⟩:=hJ.2 h15;rw[<-aT ct];refine ret<|da _ (bU (bF.aS C0) hcl)<|⟨av,U,hcl,(cb.ag ku λb hb _=>Y).ag kf λb hb _=>Y,hS⟩
end
theorem TD{l:aX}(h:(l.all λv=>decide (0<=v)&&decide (v<=100))=true):∀v∈l,jt v:=λv u=>by
 have:=asH.1 h v u;simp only[asv,asy] at this;unfold jt;omega
section
variable {w:World}
set_option maxRecDepth 8000 in
theorem Po:aA 5 #[] w (.bool true):=by
 refine aF (args:=[]) func5 Z<|aJ LK ?_;rintro _ w1 ⟨z,rfl,A,x1,hx⟩;refine alloc λb1 w2 h2=>?_;have b6:(z.all λu=>u.oneCell')=true:=by obtain⟨be,G1,m1,e1,G2,m2,e2,G3,m3,e3,G4,m4,e4,G5,m5,e5,G6,m6,e6,G7,m7,e7,G8,m8,e8,rfl,hd,-⟩:=hx.ex;obtain⟨A1,n1,c1,A2,n2,c2,A3,n3,c3,A4,n4,c4,A5,n5,c5,A6,n6,c6,rfl,-⟩:=hd.ex;rfl
 refine jR (vs:=z) h2.aS A (by rw[A];exact asN _) (λv hv=>asH.1 b6 v hv) λw3 B1 k3 _=>?_;have B1:aP w3 b1 42 z:=by rw[A] at B1;have h:aP w3 b1 42 ([]++z++[]):=B1;rwa [auy,asT] at h
 have t2:=h2.au;have s2:=h2.size;have O:ax w1 w3:=h2.ae.ag k3 λb hb _ e=>Y;have aE:=x1.trans O;have b7:=O.size;have av:iu (λb=>b<w3.heap.size) w3 z iN:=(hx.ae O).ar λb hb _=>hb;refine fj z (.aS B1) A<|aJ (Ds av XU) ?_;rintro _ w4 ⟨x4,cs,rfl,hl,-,b5⟩;obtain⟨⟨As,W,J,Ao,no,co,bb,Aa,na,ca,Ag,ng,cg,Ap,np,cp,Aq,nq,cq,rfl,sS,hr,sA,sG,sP,sQ⟩,-⟩:=b5 WU;obtain⟨R1,k1,r1,R2,k2,r2,R3,aq,r3,R4,k4,r4,R5,k5,r5,R6,k6,r6,R7,k7,r7,rfl,-⟩:=hr.ex;obtain⟨rv,ba⟩:∃rv:Int,rv=(dP (aV (gB iN.dr (iN.eG.map (je iN)))) (LJ iN)).2:=⟨_,U⟩;rw[WU];refine alloc λb2 w5 h5=>jR (vs:=[aB As W J,aB Ao no co,aB R1 k1 r1,aB R2 k2 r2,aB R3 aq r3,aB R4 k4 r4,aB R5 k5 r5,aB R6 k6 r6,aB R7 k7 r7,aB Aa na ca,aB Ag ng cg,aB Ap np cp,aB Aq nq cq,iv (dP (aV (gB iN.dr (iN.eG.map (je iN)))) (LJ iN)).2]) h5.aS U Yl Ys λw6 M b0 _=>?_;have M:aP w6 b2 50 [aB As W J,aB Ao no co,aB R1 k1 r1,aB R2 k2 r2,aB R3 aq r3,aB R4 k4 r4,aB R5 k5 r5,aB R6 k6 r6,aB R7 k7 r7,aB Aa na ca,aB Ag ng cg,aB Ap np cp,aB Aq nq cq,iv (dP (aV (gB iN.dr (iN.eG.map (je iN)))) (LJ iN)).2]:=M;have t5:=h5.au;have af:ax w4 w6:=h5.ae.ag b0 λb hb _ e=>Y;have ak:=x4.trans af;refine fj z (.aS (B1.ae ak)) A<|aJ (JJ ((av.ae ak).ar λb hb _=>hb) XU) ?_;rintro _ w7 ⟨x7,Al,nl,cl,rfl,-,b4⟩;have ol:=b4 WU;rw[WU];rw[anM] at ol;have M:=M.ae x7;have a7:=af.trans x7;refine cE (λ_=>?_) λh=>absurd U h;refine cE (λ_=>?_) λh=>absurd U h;have hs:(ia iN).gK=[JK,TA]:=by rw[Nw]
 rw[hs] at sS;have lS:=sS.an;have lS:W=2:=lS.symm;refine bC<|ld (aB As W J) (M.ai U)<|an<|cE (λ_=>?_) (λh=>absurd (by rw[lS];rfl) h);obtain⟨sb,so,b8,s,rfl,V,-,-,b3,ay⟩:=(sS.ae a7).au (show 0<W from Y);have V:JK=s:=by injection V
 subst V;obtain⟨C1,q1,d1,C2,q2,d2,C3,q3,d3,rfl,-⟩:=ay;refine bC<|ld (aB (some (ad sb so)) W J) (M.ai U)<|idx 0 U Y<|bC<|ld (.bool true) (b3 7 _ U) ?_;rw[TC] at sG;rw[XW] at sP;rw[show(dP (aV (gB iN.dr (iN.eG.map (je iN)))) (kT iN (eZ iN.d.aR.length (ia iN).gK) (iE iN (ia iN).bX))).1=[2,2] from XX] at sQ;refine bC<|ld (aB Ag ng cg) (M.ai U)<|lit [iv 3,iv 3] λg1 w8 a8=>?_;have a6:=a7.trans a8.ae;refine cR (b:=true) (lY (sG.ae a6) (ze (D:=λ_=>True) (l:=[3,3]) a8.aS U (TD U) Yd Yt)) (λ_=>?_) (λh=>by cases h);refine bC<|ld (aB Ap np cp) ((M.ae a8.ae).ai U)<|lit [iv 4] λg2 w9 a9=>?_;have a1:=a6.trans a9.ae;refine cR (b:=true) (lY (sP.ae a1) (ze (D:=λ_=>True) (l:=[4]) a9.aS U (TD U) Yd Yt)) (λ_=>?_) (λh=>by cases h);refine bC<|ld (aB Aq nq cq) (((M.ae a8.ae).ae a9.ae).ai U)<|lit [iv 2,iv 2] λg3 wa aa=>?_;have X:=a1.trans aa.ae;refine cR (b:=true) (lY (sQ.ae X) (ze (D:=λ_=>True) (l:=[2,2]) aa.aS U (TD U) Yd Yt)) (λ_=>?_) (λh=>by cases h);refine lit [iv 1,iv 1] λg4 wb ab=>?_;have ao:=ol.ag ((a8.ae.trans a9.ae).trans (aa.ae.trans ab.ae));have b9:nl=2:=by have h:=ao.own.an;have h:2=nl*1:=h;omega
 refine cR (b:=true) (lY (xs:=[1,1]) (ao.ints (D:=λ_=>True) (TD U) Y λ_ _=>Yt) (ze (D:=λ_=>True) (l:=[1,1]) ab.aS U (TD U) Yd Yt)) (λ_=>?_) (λh=>by cases h);exact aQ (.bool true) U ⟨U,aE.trans (x4.trans (X.trans ab.ae))⟩
end
theorem ajF:∀{f:Nat} {l:List Cm},l.length<=f->CC [] f l=l
 |0,[],_=>rfl
 |0,_::_,h=>by rw[as2] at h;omega
 |_+1,[],_=>rfl
 |f+1,c::l,h=>by
  have e:∀(k:Int) (m:List Cm),pE (mV [] k) m=m:=λ_ _=>rfl
  rw[CC,e,ajF,List.takeWhile_append_dropWhile]
  have h1:(c::l).dropWhile (λy=>decide (y.aH=c.aH))=l.dropWhile λy=>decide (y.aH=c.aH):=List.dropWhile_cons_of_pos (by simp)
  rw[h1]
  have u:=(List.dropWhile_sublist (l:=l) λy=>decide (y.aH=c.aH)).length_le
  rw[as2] at h
  omega
theorem amN:ym [] l=l:=ajF (asN _)
section
variable {x:cM} {s:pK}
namespace oM
theorem sn(K:oM x s):Nd x:=by
 obtain⟨_,P,-⟩:=K.ex;exact wW P.sn
theorem h0(K:oM x s):cH x.d=0:=K.sn.d
theorem n(K:oM x s):pM x s.aI<=64:=by
 have:=K.sn.ev;unfold pM LB;omega
theorem n'(K:oM x s):s.aI+pM x s.aI=LB x s.aI/\0<pM x s.aI:=by
 have:=K.sn.ev;have:=K.mh;unfold pM LB;omega
theorem prt(K:oM x s):Dd x.d s.bJ s.aI (pM x s.aI) (iD x.d s.bJ s.aI (pM x s.aI) s.free):=K.dv.part K.cv K.h0 K.n K.fr
theorem aw(K:oM x s)(hi:i<pM x s.aI)(u:f<x.d.aR.length):Jq x.d s.bJ s.cQ (s.aI+i,(f:Int))=bL ((iD x.d s.bJ s.aI (pM x s.aI) s.free).getD i []) f:=by
 have h:=K.prt.bX (eF K.so) (w:=s.aI+i) u Y;rw[<-K.part] at h;rw[h,show(s.aI+(i:Int)-s.aI).toNat=i from Y]
theorem lit(K:oM x s){w:Int}(u:f<x.d.aR.length):bL (dI x.d s.bJ w) f=jP x.d s.bJ (w,(f:Int)):=wY (λc z=>(eF K.so c z).1.1) u
theorem full(K:oM x s)(h:s.short=false)(hi:i<pM x s.aI)(u:f<x.d.aR.length):Jq x.d s.bJ s.cQ (s.aI+i,(f:Int))=jP x.d s.bJ (s.aI+i,(f:Int)):=by
 have hs:=K.short;rw[h] at hs;rw[K.aw hi u,Az hi,aso (avz hs.symm),K.lit u]
theorem cut(K:oM x s)(h:s.short=true){m:Mk}(hm:dX s.free (bV x.d s.bJ s.aI (pM x s.aI)) m)(hi:i<pM x s.aI)(hf:f<x.d.aR.length){hs hd aw:aX}{mk:List Mk}(hn:dT x.d (dI x.d s.bJ (s.aI+i))=some hs)(R:DO x.d (dI x.d s.bJ (s.aI+i)) hs)(D:oQ x.d (dI x.d s.bJ (s.aI+i)) hs (dC m (bL (bV x.d s.bJ s.aI (pM x s.aI)) i) i) hd aw mk):Jq x.d s.bJ s.cQ (s.aI+i,(f:Int))=bL aw f:=by
 have hsh:=K.short;rw[h] at hsh;refine arA ?_;intro hsh ea;have hE:=((K.dv.aw K.cv K.h0 K.n K.fr hsh).1 i hi).1;rw[ea] at hE;rw[K.aw hi hf,Az hi,asp hsh,ea,Au hn R D hE]
theorem arF(K:oM x s)(h:s.short=true){m:Mk}(hm:dX s.free (bV x.d s.bJ s.aI (pM x s.aI)) m)(hi:i<pM x s.aI):0<=dC m (bL (bV x.d s.bJ s.aI (pM x s.aI)) i) i/\dC m (bL (bV x.d s.bJ s.aI (pM x s.aI)) i) i<=1073741824:=by
 have hsh:=K.short;rw[h] at hsh;refine arA ?_;intro hsh ea;have hE:=(K.dv.aw K.cv K.h0 K.n K.fr hsh).1 i hi;rw[ea,yD hi] at hE;rw[yD hi];have:=Jp K.cv K.h0 (s.aI+i) 0;omega
theorem jX(K:oM x s)(h:s.short=true):jX s.free (bV x.d s.bJ s.aI (pM x s.aI))=0:=by
 have u:=K.short;rw[h] at u;exact yE K.cv K.h0 K.n K.fr (att u.symm)
theorem anK(K:oM x s)(hj:∀j∈x.vj,¬j.aH<=s.aI){c:Cm}(A:c∈s.ek):(0<=c.aH/\c.aH<x.d.aG)/\(∃y∈Hk x.d x.eW c.aH s.aI,y.right=c.right/\y.aO=c.aO/\y.aC=c.aC/\y.cC=c.cC)/\∀i∈XN x.d s.aI x.done c.aH,∃(k:Nat) (y:BD),i=(k:Int)/\x.d.ed[k]? =some y/\y.aO≠c.aO:=by
 obtain⟨bf,P,e⟩:=K.ex;have e2:s.ek=Jk x s.aI (min (s.aI+x.every) x.d.aG):=by rw[e];rfl
 have ej:Lq x s.aI=[]:=by
  unfold Lq;cases X:x.vj with
  |nil=>rfl
  |cons j l=>
   rw[au7,aso];rw[asy];exact hj j (by rw[X];exact ass)
 rw[e2] at A;unfold Jk at A;rw[ej,amN] at A;obtain⟨h1,M⟩:=at6.1 A;have h3:=(at6.1 h1).1;obtain⟨⟨h4,h5⟩,h6⟩:=RK h3;obtain⟨y,W,J⟩:=pD h6;have Z:=K.mh;refine⟨⟨Y,?_⟩,⟨y,W,by rw[J],by rw[J],by rw[J],by rw[J]⟩,λi hi=>?_⟩
 .unfold tZ at h5;omega
 .unfold XN CJ at hi;obtain⟨k,hk,u⟩:=aus.1 hi;cases hd:x.d.ed[k]? with
  |none=>rw[hd] at u;cases u
  |some z=>
   rw[hd] at u;simp only at u;split at u
   .rename_i O;injection u with u;refine⟨k,z,u.symm,hd,λez=>?_⟩;unfold anj at M;rw[asH] at M;have V:=M (oW x.d s.aI x.done k z) (by unfold wU;exact aus.2 ⟨k,hk,by rw[hd];simp only;rw[asp ez]⟩)
    unfold VX at O;rw[O] at V;cases V
   .cases u
end oM
theorem Pp{k:Nat}(I:acF x k):aV ((cy x k).gK.map λs=>my s.bJ s.cQ f)=aV ((List.range x.d.aG.toNat).map λh:Nat=>cj (cy x k).bX f h):=by
 rw[I.tk f,Df (eF I.JX)]
end
instance ajN:F4 prog 124:=⟨by kernel_rfl⟩
section
variable {w:World}
set_option maxRecDepth 8000 in
theorem LL{ay cs:aW}{x:cM}{s:pK}{D':Nat->Prop}(hx:iu (λb=>b<w.heap.size) w ay x)(hs:vq.uF D' w cs s)(K:oM x s)(few:x.eW.length<=12)(hj:∀j∈x.vj,¬j.aH<=s.aI):aA 9 #[.agg ay.toArray,.agg cs.toArray] w (.bool true):=by
 have hx0:=hx;obtain⟨eh,G1,m1,e1,G2,m2,e2,G3,m3,e3,G4,m4,e4,G5,m5,e5,G6,m6,e6,G7,m7,e7,G8,m8,e8,rfl,hd,av,bA,-⟩:=hx.ex;have hd0:=hd;obtain⟨A1,n1,c1,A2,n2,c2,A3,n3,c3,A4,n4,c4,A5,n5,c5,A6,n6,c6,rfl,-,-,-,-,hdu,-⟩:=hd.ex;obtain⟨C1,k1,d1,C2,k2,d2,C3,k3,d3,rfl,s1,-,-⟩:=hs;have cT:=av.an;have cL:=hdu.an;have cK:=s1.an;have sn:=K.sn;have dp:=K.mh;have hh:=eC sn.d;refine aF func9 Z<|box λb2 w1 h1=>box λb3 w2 h2=>?_;have B2:=h1.aS.ae h2.ae;have B3:=h2.aS;refine apf ?_;refine alloc λb5 w3 h3=>?_;refine fg h3.aS λw4 B5 k4 _=>?_;have t3:=h3.au;have aa:=h3.ae.ag k4 λb hb _ e=>Y;have x04:=(h1.ae.trans h2.ae).trans aa;obtain⟨B2,B3⟩:=zQ aa B2 B3;refine go ?_;refine aM (λj:Nat=>[(22,iv (j:Int))]) (λj u=>j<=k1/\ax w4 u) (λj _=>k1-j) 0 ⟨U,Yt⟩ ⟨atc _,.refl _ _⟩ U ?_;rintro G j u ⟨hj1,xu⟩;refine cD (λhlt=>?_) λhge=>?_;rotate_left
 .exact aQ _ U ⟨U,x04.trans xu⟩
 obtain⟨sb,so,cw,c,bE,hc,-,-,hcc,rfl⟩:=(s1.ae (x04.trans xu)).au (show j<k1 from Y);have hcm:=asq hc;obtain⟨ec,⟨y0,bt,br⟩,ak⟩:=K.anK hj hcm;rw[bE];refine go ?_;refine alloc λb7 u1 a1=>?_;refine fg a1.aS λu2 B7 bp _=>?_;have t7:=a1.au;have xu2:=a1.ae.ag bp λb hb _ e=>Y;have x42:=xu.trans xu2;have x02:=x04.trans x42;have cg:=B2.ae x42;have B3u:=B3.ae x42;have B5u:=B5.ae x42;refine go ?_;refine aJ (Sl (aH:=c.aH) (aN:=s.aI) (hd0.ae x02) (av.ae x02) Y) ?_;rintro _ u3 ⟨x3,Ah,nh,ei,rfl,hok,-⟩;have ea:mr x.d x.eW c.aH s.aI=0:=by unfold mr;rw[aso λh=>h sn.rg,asp];rw[asv,bO,bO];omega
 have oh:=hok ea;rw[ea];have ep:=cg.ae x3;have eo:=B3u.ae x3;have cb:=B5u.ae x3;have bT:=B7.ae x3;refine go ?_;refine aJ (VY (aH:=c.aH) (aN:=s.aI) (hd0.ae (x02.trans x3)) (bA.ae (x02.trans x3))) ?_;rintro _ u4 ⟨J,Al,nl,cl,rfl,a8⟩;have el:uy x.d x.done c.aH s.aI=0:=by unfold uy;rw[aso λh=>h sn.dn,asp];rw[asv,bO,bO];omega
 have sl:=a8 el;have cI:=sl.an;rw[el];have c8:=cb.ae J;have b0:=bT.ae J;have a7:=oh.ag J;have bk:(Hk x.d x.eW c.aH s.aI).length=nh:=by have h1:=a7.own.an;rw[bz (enc:=tm.c) (K:=4) λ_=>rfl] at h1;omega
 have ct:nh<=153600:=by rw[<-bk];exact MN sn.d
 have sle:=sl.le;have ck:=s1.le;refine cN (λh=>absurd U h) λ_=>?_;refine cN (λh=>absurd U h) λ_=>?_;refine an ?_;obtain⟨P,hP⟩:∃P:tm->Bool,P=λh=>(h.right == c.right)&&((h.aO == c.aO)&&((h.aC == c.aC)&&((h.cC == c.cC)&&true))):=⟨_,U⟩;have O:=bt;rcases a7.form with⟨-,df,-⟩|⟨g8,bw,-,-,-⟩
 .rw[asL (by omega:(Hk x.d x.eW c.aH s.aI).length=0)] at O;cases O
 subst bw;obtain⟨rest,hbk,-,-⟩:=a7.own.aS;refine HB (λ(k:Nat) (fb:Bool)=>[(56,iv (k:Int)),(12,.bool fb)]) (λk fb v=>k<=nh/\ax u4 v/\fb=((Hk x.d x.eW c.aH s.aI).take k).any P) (λk _ _=>nh-k) 0 false ⟨U,U,Yt⟩ ⟨atc _,.refl _ _,U⟩ U ?_;rintro Gi k fb v ⟨hk,xv,aq⟩;refine cD (λhlt2=>?_) λhge2=>?_
 .have hlt2:k<nh:=by have:((k:Nat):Int)<nh:=hlt2;omega
  obtain⟨y,hy⟩:∃y,(Hk x.d x.eW c.aH s.aI)[k]? =some y:=⟨_,asw Y⟩;have htk:((Hk x.d x.eW c.aH s.aI).take (k+1)).any P=(((Hk x.d x.eW c.aH s.aI).take k).any P ||P y):=by rw[asD,hy,awD];simp
  rw[<-aq] at htk;refine idx k U hlt2 ?_;refine fj _ (cZ (enc:=tm.c) (K:=4) (λ_=>rfl) (hbk.ae xv) hy) U ?_;refine alloc λej v1 a2=>?_;refine fg a2.aS λv2 et bo _=>?_;have t14:=a2.au;have be:=a2.ae.ag bo λb hb _ e=>Y;have V:=xv.trans be;have bI:=b0.ae V;cases fb with
  |true=>
   refine go ?_;exact rr (k+1) true ⟨Yn,U,Yt⟩ ⟨Y,V,by rw[htk];rfl⟩ Y
  |false=>
   refine go ?_;refine hY [iv c.right,iv c.aO,iv c.aC,iv c.cC] Z ?_;refine Uz ((y.right == c.right)&&((y.aO == c.aO)&&((y.aC == c.aC)&&((y.cC == c.cC)&&true)))) Z (λq=>?_) λq=>?_
   .refine go ?_;exact rr (k+1) true ⟨Yn,U,Yt⟩ ⟨Y,V,by rw[htk,hP];simp only;rw[q];rfl⟩ Y
   .refine go ?_;exact rr (k+1) false ⟨Yn,U,Yt⟩ ⟨Y,V,by rw[htk,hP];simp only;rw[q];rfl⟩ Y
 have hkn:k=nh:=by have:¬((k:Nat):Int)<nh:=hge2;omega
 have bx:fb=true:=by rw[aq,asx Y,auY];refine⟨y0,O,?_⟩;rw[hP];simp only[br,beq_self_eq_true,Bool.and_self]
 subst bx;refine an ?_;have bg:=sl.ae xv;refine aM (λk:Nat=>[(77,iv (k:Int))]) (λk z=>k<=nl/\z=v) (λk _=>nl-k) 0 ⟨U,Yt⟩ ⟨atc _,U⟩ U ?_;rintro Gj k2 z ⟨hk2,rfl⟩;refine cD (λcp=>?_) λcr=>?_
 .obtain⟨ib,io,dd,i,rfl,hi,-,-,dO,rfl,-⟩:=bg.au (show k2<nl from Y);obtain⟨kk,y,rfl,af,bq⟩:=ak i (asq hi);have dx:=(asr.1 af).1;obtain⟨db,eg,ef,dy,bG,a6,-,-,eb,rfl⟩:=(hdu.ae ((x02.trans x3).trans (J.trans xv))).au (show kk<n5 from Y);rw[af] at a6;injection a6 with a6;subst a6;have en:=c8.ae xv;have bI:=b0.ae xv;refine go ?_;refine uo mx Z ?_;refine cD (λh=>absurd (show(kk:Int)<0 from h) Y) λ_=>?_;refine go ?_;refine cD (λh=>absurd (show(kk:Int)>=(n5:Int) from h) Y) λ_=>?_;refine go ?_;rw[bG];refine go ?_;refine cE (λh=>absurd h bq) λ_=>?_;exact Yu
 .refine go ?_;exact next (j+1) ⟨Yn,Yt⟩ ⟨Y,((x42.trans x3).trans J).trans xv⟩ Y
end
theorem anO:∃f0 f1,Ig prog 130 3 f0 f1:=⟨_,_,⟨Tryz.underlying130,rfl,rfl,rfl,rfl,by decide,by decide,by kernel_rfl,λ_ _ _ _=>by kernel_rfl⟩⟩
instance arh:rD prog 130 dE:=by
 obtain⟨_,_,h⟩:=anO;exact h.law
def i6:List ((Int×Int)×Int)->Int×Int->Option Int
 |[],_=>none
 |p::l,q=>if q=p.1 then some (p.2+(i6 l q).getD 0) else i6 l q
theorem FC{p:(Int×Int)×Int}{q:Int×Int}:∀{l:List ((Int×Int)×Int)},i6 (l++[p]) q=if q=p.1 then some ((i6 l q).getD 0+p.2) else i6 l q
 |[]=>by
  show(if q=p.1 then some (p.2+0) else none)=if q=p.1 then some (0+p.2) else none
  split<;>simp
 |c::l=>by
  rw[atC,i6,i6,FC]
  by_cases e:q=c.1
  .rw[asp e,asp e]
   by_cases u:q=p.1
   .rw[asp u,asp u];simp only[auE];congr 1;omega
   .rw[aso u,aso u]
  .rw[aso e,aso e]
theorem LM{q:Int×Int}:∀{l:List ((Int×Int)×Int)},(∀p∈l,0<=p.2/\p.2<=1073741824)->0<=(i6 l q).getD 0/\(i6 l q).getD 0<=l.length*1073741824
 |[],_=>⟨asO _,by show(0:Int)<=_;simp⟩
 |c::l,h=>by
  have z:=LM (q:=q) (l:=l) λy u=>h y (ast _ u)
  have A:=h c ass
  rw[i6,as2]
  split
  .simp only[auE];omega
  .omega
theorem JO{q:Int×Int}{n:Int}:∀{l:List ((Int×Int)×Int)},i6 l q=some n->∃p∈l,q=p.1
 |[],h=>by cases h
 |c::l,h=>by
  rw[i6] at h
  split at h
  .rename_i e;exact⟨c,ass,e⟩
  .obtain⟨p,u,e⟩:=JO h
   exact⟨p,ast _ u,e⟩
def mA(d:aU)(c:Cm):Int×Int:=(c.aO,dH d c)
def sM(d:aU)(l:List Cm):List ((Int×Int)×Int):=l.map λc=>(mA d c,c.aC)
def vt(d:aU)(l:List Cm)(az:aX):List ((Int×Int)×Int):=(l.zip az).map λp=>(mA d p.1,p.2)
theorem xh{d:aU}{f w:Int}:∀{l:List Cm},(i6 (sM d l) (f,w)).getD 0=jP d l (w,f)
 |[]=>rfl
 |c::l=>by
  show(if(f,w)=mA d c then some (c.aC+(i6 (sM d l) (f,w)).getD 0) else i6 (sM d l) (f,w)).getD 0=_
  rw[jP]
  by_cases e:vk d c=(w,f)
  .have u:(f,w)=mA d c:=by
    unfold vk at e
    rw[atm] at e
    unfold mA;rw[e.1,e.2]
   rw[asp e,asp u,auE,xh]
  .have u:¬(f,w)=mA d c:=λh=>e (by
    unfold mA at h
    rw[atm] at h
    unfold vk;rw[h.1,h.2])
   rw[aso e,aso u,xh,avV]
theorem xi{d:aU}{f w:Int}:∀{l:List Cm} {az:aX},(i6 (vt d l az) (f,w)).getD 0=Jq d l az (w,f)
 |[],az=>by cases az<;>rfl
 |c::l,[]=>rfl
 |c::l,a::az=>by
  show(if(f,w)=mA d c then some (a+(i6 (vt d l az) (f,w)).getD 0) else i6 (vt d l az) (f,w)).getD 0=_
  rw[Jq]
  by_cases e:vk d c=(w,f)
  .have u:(f,w)=mA d c:=by
    unfold vk at e
    rw[atm] at e
    unfold mA;rw[e.1,e.2]
   rw[asp e,asp u,auE,xi]
  .have u:¬(f,w)=mA d c:=λh=>e (by
    unfold mA at h
    rw[atm] at h
    unfold vk;rw[h.1,h.2])
   rw[aso e,aso u,xi,avV]
theorem Pq{d:aU}{k:Nat}{c:Cm}(h:l[k]? =some c):sM d (l.take (k+1))=sM d (l.take k)++[(mA d c,c.aC)]:=by
 unfold sM;rw[asD,h,asK];rfl
theorem Pr{d:aU}{az:aX}{k:Nat}{c:Cm}{a:Int}(h:l[k]? =some c)(u:az[k]? =some a):vt d (l.take (k+1)) (az.take (k+1))=vt d (l.take k) (az.take k)++[(mA d c,a)]:=by
 unfold vt;have l1:=(asr.1 h).1;have l2:=(asr.1 u).1;rw[asD,h,asD,u];show((l.take k++[c]).zip (az.take k++[a])).map _=_;rw[List.zip_append (by rw[asF,asF];omega),asK];rfl
theorem Nx{l l':List ((Int×Int)×Int)}{k:Int×Int}{n V:Int}(u:l'=l++[(k,n)])(z:V=(i6 l k).getD 0):dZ (dZ (λq=>(i6 l q).map iv) k (((i6 l k).map iv).getD (iv 0))) k (iv (V+n))=λq=>(i6 l' q).map iv:=by
 funext q;unfold dZ;rw[u,FC];by_cases e:q=k
 .rw[asp e,asp e,e,z];rfl
 .rw[aso e,aso e,aso e]
theorem xj{l:List ((Int×Int)×Int)}{k:Int×Int}:((i6 l k).map iv).getD (iv 0)=iv ((i6 l k).getD 0):=by
 cases i6 l k<;>rfl
end
theorem TF{d:aU}{r:Int}(h:cH d=0)(u:0<=r/\r<d.aD.length):rJ d [r]=0:=by
 unfold rJ;rw[asp h,asp];show(decide (0<=r/\r<d.aD.length)&&true)=true;rw[asE u];rfl
section
open Classical
theorem JP{α β:Type}{l:List α}{m:List β}{j:Nat}{q:α×β}(h:q∈(l.take j).zip (m.take j)):q∈l.zip m:=by
 obtain⟨i,hi⟩:=ath h;obtain⟨h1,u⟩:=auu.1 hi;rw[aty] at h1 u;split at h1
 .rename_i e;rw[asp e] at u;exact asq (i:=i) (auu.2 ⟨h1,u⟩)
 .cases h1
section
variable {w:World}
set_option maxRecDepth 8000 in
theorem FD{hZ cs:aW}{x:cM}{s:pK}{D':Nat->Prop}(hx:iu (λb=>b<w.heap.size) w hZ x)(hs:vq.uF D' w cs s)(K:oM x s)(few:acE x.d)(qS:s.bJ.length<=4096):aA 10 #[.agg hZ.toArray,.agg cs.toArray] w (.bool true):=by
 have hx0:=hx;obtain⟨rE,G1,m1,e1,G2,m2,e2,G3,m3,e3,G4,m4,e4,G5,m5,e5,G6,m6,e6,G7,m7,e7,G8,m8,e8,rfl,hd,-⟩:=hx.ex;have hd0:=hd;obtain⟨A1,n1,c1,A2,n2,c2,A3,n3,c3,A4,n4,c4,A5,n5,c5,A6,n6,c6,rfl,kW,hG,-⟩:=hd.ex;obtain⟨C1,k1,d1,C2,k2,d2,C3,k3,d3,rfl,-,s2,s3⟩:=hs;have qL:=hG.an;have qj:=kW.an;have qE:=s2.an;have qB:=s3.an;have sn:=K.sn;have h0:=K.h0;have r4:=K.mh;have hh:=eC h0;have V:=gY h0;have Vf:=V.f;have Vn:=V.n;have tr:=kp h0;have fh:=few.h;have ff:=few.f;have qi:s.cQ.length=s.bJ.length:=by rw[K.part];exact pL
 have hcm:=eF K.so;have gm:=K.sw;have l4:=K.n';have hP:∀p∈s.bJ.zip s.cQ,0<=p.2/\p.2<=p.1.aC:=by rw[K.part];exact LA K.prt.pos λc hc=>by have:=(hcm c hc).2.2;omega
 have l8:∀p∈sM x.d s.bJ,0<=p.2/\p.2<=1073741824:=λp hp=>by obtain⟨c,hc,rfl⟩:=asS.1 hp;have:=(K.so.1 c hc).2.2.2.1;show 0<=c.aC/\c.aC<=_;omega
 have hab:∀p∈vt x.d s.bJ s.cQ,0<=p.2/\p.2<=1073741824:=λp hp=>by obtain⟨q,hq,rfl⟩:=asS.1 hp;have h1:=hP q hq;have:=(K.so.1 q.1 (aww hq).1).2.2.2.1;show 0<=q.2/\q.2<=_;omega
 refine aF (args:=[.agg ([.string x.d.name,iv x.d.aG,iv x.d.cap,iv x.d.bH,aB A1 n1 c1,aB A2 n2 c2,aB A3 n3 c3,aB A4 n4 c4,aB A5 n5 c5,aB A6 n6 c6]++[iv x.every,aB G1 m1 e1,aB G2 m2 e2,aB G3 m3 e3,aB G4 m4 e4,aB G5 m5 e5,aB G6 m6 e6,aB G7 m7 e7,aB G8 m8 e8]).toArray,.agg #[iv s.aI,iv s.aI,iv (s.fin-1),iv s.free,aB C1 k1 d1,aB C2 k2 d2,aB C3 k3 d3,.bool s.short]]) func10 Z<|box λb2 w1 h1=>box λb3 w2 h2=>?_;have B2:aP w2 b2 42 ([.string x.d.name,iv x.d.aG,iv x.d.cap,iv x.d.bH,aB A1 n1 c1,aB A2 n2 c2,aB A3 n3 c3,aB A4 n4 c4,aB A5 n5 c5,aB A6 n6 c6]++[iv x.every,aB G1 m1 e1,aB G2 m2 e2,aB G3 m3 e3,aB G4 m4 e4,aB G5 m5 e5,aB G6 m6 e6,aB G7 m7 e7,aB G8 m8 e8]):=h1.aS.ae h2.ae;have B3:aP w2 b3 60 [iv s.aI,iv s.aI,iv (s.fin-1),iv s.free,aB C1 k1 d1,aB C2 k2 d2,aB C3 k3 d3,.bool s.short]:=h2.aS;refine bC<|fj [.string x.d.name,iv x.d.aG,iv x.d.cap,iv x.d.bH,aB A1 n1 c1,aB A2 n2 c2,aB A3 n3 c3,aB A4 n4 c4,aB A5 n5 c5,aB A6 n6 c6] (bF.app (ys:=[iv x.every,aB G1 m1 e1,aB G2 m2 e2,aB G3 m3 e3,aB G4 m4 e4,aB G5 m5 e5,aB G6 m6 e6,aB G7 m7 e7,aB G8 m8 e8]) (.aS B2)).1 U<|alloc λb5 w3 h3=>jR (vs:=[.string x.d.name,iv x.d.aG,iv x.d.cap,iv x.d.bH,aB A1 n1 c1,aB A2 n2 c2,aB A3 n3 c3,aB A4 n4 c4,aB A5 n5 c5,aB A6 n6 c6]) h3.aS U Yl Ys λw4 B5 k4 _=>?_;have B5:aP w4 b5 31 [.string x.d.name,iv x.d.aG,iv x.d.cap,iv x.d.bH,aB A1 n1 c1,aB A2 n2 c2,aB A3 n3 c3,aB A4 n4 c4,aB A5 n5 c5,aB A6 n6 c6]:=B5;have t3:=h3.au;have fa:ax w2 w4:=h3.ae.ag k4 λb hb _ e=>Y;have x04:=(h1.ae.trans h2.ae).trans fa;have B3:=B3.ae fa;refine qV λg1 w5 ll ec=>?_;have jb:ax w4 w5:=by rw[ec];exact aj.alloc _ _ _
 have M1:fL dE w5 g1 (λq=>(i6 (sM x.d (s.bJ.take 0)) q).map iv):=by rw[ec,ll];exact fL.new dE w4
 refine qV λg2 w6 hg2 eb=>?_;have eT:ax w5 w6:=by rw[eb];exact aj.alloc _ _ _
 have M2:fL dE w6 g2 (λq=>(i6 (vt x.d (s.bJ.take 0) (s.cQ.take 0)) q).map iv):=by rw[eb,hg2];exact fL.new dE w5
 have M1:=M1.ah eT Yt;have z5:w5.heap.size=w4.heap.size+1:=by rw[ec];simp
 have z6:w6.heap.size=w5.heap.size+1:=by rw[eb];simp
 have x46:=jb.trans eT;have x06:=x04.trans x46;have pn:=x04.size;obtain⟨B3,B5⟩:=zQ x46 B3 B5;have l3:=B3.lt;have l5:=B5.lt;have t1:=h1.au;have t2:=h2.au;have qg:=h1.size;have qd:=h2.size;have qc:=h3.size;have oS:=k4.size;refine bC<|ld (aB C2 k2 d2) (B3.ai U)<|an<|aM (λj:Nat=>[(44,iv (j:Int))]) (λj u=>j<=k2/\aj (λb=>b≠g1/\b≠g2) w6 u/\fL dE u g1 (λq=>(i6 (sM x.d (s.bJ.take j)) q).map iv)/\fL dE u g2 λq=>(i6 (vt x.d (s.bJ.take j) (s.cQ.take j)) q).map iv) (λj _=>k2-j) 0 ⟨U,Yt⟩ ⟨atc _,.refl _ _,M1,M2⟩ U ?_;rintro Ga j u ⟨hj,ku,bq,bp⟩;have av:ax w u:=x06.ag ku λb hb _=>Y;have zu:=ku.size;refine cD (λhlt=>?_) λhge=>?_
 .obtain⟨sb,so,q8,c,rfl,hc,-,-,hcc,rfl⟩:=(s2.ae av).au (show j<k2 from Y);obtain⟨ab,ao,nz,a,lG,ha,-,-,hac,rfl,-⟩:=s3.au (show j<k3 from Y);have om:=iS (hac 0 _ U);have a8:=asq hc;obtain⟨lp,r7,hcl⟩:=hcm c a8;have oj:=(K.so.1 c a8).2.2.2.1;have hT:=hP (c,a) (asq (i:=j) (auu.2 ⟨hc,ha⟩));have hT:0<=a/\a<=c.aC:=hT;refine idx j U Y<|fj (bM c) hcc U<|alloc λb9 u1 a1=>jR (vs:=bM c) a1.aS U Yl Ys λu2 B9 dO _=>?_;have B9:aP u2 b9 65 (bM c):=B9;have t9:=a1.au;have s9:=a1.size;have xu2:ax u u2:=a1.ae.ag dO λb hb _ e=>Y;have x02:=av.trans xu2;have B3u:=(B3.ah ku ⟨Y,Y⟩).ae xu2;have B5u:=(B5.ah ku ⟨Y,Y⟩).ae xu2;refine bC<|ld (iv c.aO) (B9.ai U)<|cD (λh=>absurd (show c.aO<0 from h) Y) λ_=>bC<|ld (iv c.aO) (B9.ai U)<|bC<|ld (aB A2 n2 c2) (B5u.ai U)<|an<|cD (λh=>absurd (show c.aO>=(n2:Int) from h) Y) λ_=>?_;obtain⟨fb,fo,rp,y,lS,hy,-,-,kn,rfl⟩:=(hG.ae x02).au (show c.aO.toNat<n2 from Y);have gl:jh x.d c.aO.toNat=y:=jJ hy;obtain⟨r1,r2⟩:=V.fm c.aO.toNat Y;rw[gl] at r1 r2;refine bR (oP [8] [] [0,1,2,3,4,5,6,7,8,9,10,11,12,13]) [] (λz=>ax u2 z) mx Z (.refl _ _)<|tM [.string x.d.name,iv x.d.aG,iv x.d.cap,iv x.d.bH,aB A1 n1 c1,aB A2 n2 c2,aB A3 n3 c3,aB A4 n4 c4,aB A5 n5 c5,aB A6 n6 c6] (.aS B5u) U Yt (.refl _ _)<|bC<|fu (aB A2 n2 c2) (B5u.ai U) Yt (.refl _ _)<|bC<|fu (iv c.aO) (B9.ai U) Yt (.refl _ _) ?_;have hI:=hd0.ae x02;rw[lS] at hI|-;refine idx c.aO.toNat Y Y<|bC<|fu (iv y.aZ) (kn 1 _ U) Yt (.refl _ _)<|bW (CL (r:=y.aZ) hI (by unfold jt;omega)) λu3 x3=>?_;have ce:rJ x.d [y.aZ]=0:=TF h0 ⟨r1,r2⟩;rw[ce,asp U];refine bN x3<|cN (λh=>absurd U h) λ_=>?_;have kG:dH x.d c=c.aH-cG x.d y.aZ:=by unfold dH Oz;rw[gl]
  have qR:=gm c a8;have B9:=B9.ae x3;refine bC<|ld (iv c.aO) (B9.ai U)<|bC<|ld (iv c.aH) (B9.ai U)<|eD (n:=c.aH-cG x.d y.aZ) (by have:LB x s.aI<=x.d.aG:=(by unfold LB;omega);omega) ?_;rw[<-kG];refine hY [iv c.aO,iv (dH x.d c)] Z<|alloc λnr u4 a4=>jR (vs:=[iv c.aO,iv (dH x.d c)]) a4.aS U Yl Ys λu5 Bc kc _=>?_;have Bc:aP u5 nr 130 [iv c.aO,iv (dH x.d c)]:=Bc;have t12:=a4.au;have s12:=a4.size;have z3:=x3.size;have pf:=xu2.size;have dx:ax u3 u5:=a4.ae.ag kc λb hb _ e=>Y;have xu5:ax u u5:=(xu2.trans x3).trans dx;have B9:=B9.ae dx;have c8:=(B3u.ae x3).ae dx;have N1:=bq.ah xu5 Yt;have N2:=bp.ah xu5 Yt;have ns:=LM (q:=mA x.d c) (l:=sM x.d (s.bJ.take j)) λp hp=>l8 p (by unfold sM at hp|-;rw[List.map_take] at hp;exact asW hp)
  have np:=LM (q:=mA x.d c) (l:=vt x.d (s.bJ.take j) (s.cQ.take j)) λp hp=>hab p (by unfold vt at hp|-;obtain⟨q,hq,rfl⟩:=asS.1 hp;exact asS.2 ⟨q,JP hq,U⟩)
  have qs:(sM x.d (s.bJ.take j)).length<=4096:=by unfold sM;rw[asz,asF];omega
  have qq:(vt x.d (s.bJ.take j) (s.cQ.take j)).length<=4096:=by unfold vt;rw[asz,List.length_zip,asF];omega
  obtain⟨V1,en⟩:∃v,v=(i6 (sM x.d (s.bJ.take j)) (mA x.d c)).getD 0:=⟨_,U⟩;obtain⟨V2,ej⟩:∃v,v=(i6 (vt x.d (s.bJ.take j) (s.cQ.take j)) (mA x.d c)).getD 0:=⟨_,U⟩;rw[<-en] at ns;rw[<-ej] at np;have kb:=N1.g.lt;have jo:=N2.g.lt;have hne:g1≠g2:=Y;have e1:((i6 (sM x.d (s.bJ.take j)) (mA x.d c)).map iv).getD (iv 0)=iv V1:=by rw[xj,en]
  have e2:((i6 (vt x.d (s.bJ.take j) (s.cQ.take j)) (mA x.d c)).map iv).getD (iv 0)=iv V2:=by rw[xj,ej]
  refine bR (oP [6,8] [8] [0,1,2,3,4,5,6,7,8]) [8] (λy=>aj (λb=>b≠g1) u5 y/\∃f',dw dE y g1 f'/\(f' (mA x.d c)).getD (iv 0)=iv V1) mx Z ⟨.refl _ _,_,N1.g,e1⟩<|xM [iv c.aO,iv (dH x.d c)] (λv hv=>.aS (Bc.ah hv.1 Y)) U<|dh (kv:=dE) (mA x.d c) (iv V1) (λv hv=>hv.2)<|bC<|pb (iv c.aC) (λv hv=>hv.1.ai (B9.ai U) (show b9≠g1 from Y))<|eD (n:=V1+c.aC) Y<|rU (kv:=dE) (mA x.d c) N1 λu7 s7 MS k7 oG=>bN ⟨k7,_,MS.g.g,?_⟩ ?_
  .unfold dZ;rw[asp U];exact e1
  refine gv (λ_=>True) Yt<|wj (v:=iv (V1+c.aC)) MS λu8 M8 k8 zs8=>bN Yt ?_;rw[Nx (Pq hc) en] at M8;have ay:aj (λb=>b≠g1) u5 u8:=k7.trans k8;have N2:=N2.ah ay λe=>hne e.symm;have Bc:=Bc.ah ay Y;have c8:=c8.ah ay Y;rw[lG] at c8;refine bR (oP [9,11] [11] [0,1,2,3,4,5,6,7,8,9,10,11]) [11] (λy=>aj (λb=>b≠g2) u8 y/\∃f',dw dE y g2 f'/\(f' (mA x.d c)).getD (iv 0)=iv V2) mx Z ⟨.refl _ _,_,N2.g,e2⟩<|xM [iv c.aO,iv (dH x.d c)] (λv hv=>.aS (Bc.ah hv.1 Y)) U<|dh (kv:=dE) (mA x.d c) (iv V2) (λv hv=>hv.2) ?_;have j8:ax w u8:=(av.trans xu5).ag ay λb hb _=>Y;refine bC<|pb (aB (some (ad ab ao)) k3 d3) (λv hv=>hv.1.ai (c8.ai U) (show b3≠g2 from Y))<|idx j U Y<|pb (iv a) (λv hv=>hv.1.ai (j8.ai (hac 0 _ U) Yt) (show ab≠g2 from Y))<|eD (n:=V2+a) Y<|rU (kv:=dE) (mA x.d c) N2 λu9 q9 j0 k9 oy=>bN ⟨k9,_,j0.g.g,?_⟩ ?_
  .unfold dZ;rw[asp U];exact e2
  refine gv (λ_=>True) Yt<|wj (v:=iv (V2+a)) j0 λua Ma ka ox=>bN Yt<|eD (n:=(j:Int)+1) Y ?_;rw[Nx (Pr hc ha) ej] at Ma;have gi:aj (λb=>b≠g2) u8 ua:=k9.trans ka;exact next (j+1) ⟨Yn,Yt⟩ ⟨Y,((ku.ag xu5 λ_ _ _=>Yt).ag ay λb _ h=>h.1).ag gi λb _ h=>h.2,M8.ah gi hne,Ma⟩ Y
 have hjk:j=k2:=by have:¬((j:Nat):Int)<k2:=hge;omega
 rw[hjk,asx Y] at bq bp;rw[asx Y] at bp;have B3:=B3.ah ku ⟨Y,Y⟩;have B5:=B5.ah ku ⟨Y,Y⟩;clear hjk hge;have av:=x06.ag ku λb hb _=>Y;have zu:=ku.size;have kb:=bq.g.lt;have jo:=bp.g.lt;obtain⟨N,hN⟩:∃N,N=pM x s.aI:=⟨_,U⟩;rw[<-hN] at l4;have hfin:=K.fin;have lA:=K.n;rw[<-hN] at lA;obtain⟨nd,hnd⟩:∃l,l=bV x.d s.bJ s.aI N:=⟨_,U⟩;have ql:nd.length=N:=by rw[hnd];exact eN
 refine bC<|bC<|ld (iv s.aI) (B3.ai U)<|aM (λt:Nat×(bZ×Nat)×(bZ×Nat)=>[(15,iv (s.aI+t.1)),(13,aB t.2.1.1 t.1 t.2.1.2),(14,aB t.2.2.1 t.1 t.2.2.2)]) (λt y=>t.1<=N/\bu u y t.2.1.1 t.1 t.2.1.2 3 1 (cJ (nd.take t.1))/\∃cells Q,bu u y t.2.2.1 t.1 t.2.2.2 37 1 cells/\dW gC Q y ((List.range t.1).map λk:Nat=>dI x.d s.bJ (s.aI+k)) cells/\∀b,Q b->u.heap.size<=b/\b<y.heap.size/\t.2.1.1≠aL b/\t.2.2.1≠aL b) (λt _=>N-t.1) (0,(none,0),(none,0)) ⟨by show iv s.aI=iv (s.aI+((0:Nat):Int));rw[Int.natCast_zero,atJ],U,U,Yt⟩ ⟨atc _,bu.nil (.refl _ _),[],λ_=>False,bu.nil (.refl _ _),U,λb h=>h.elim⟩ U ?_;rintro Gb ⟨i,⟨A,ca⟩,B,cb⟩ y ⟨hi,oA,cells,Q,oB,fl,hQ⟩;have hi:i<=N:=hi;have oA:bu u y A i ca 3 1 (cJ (nd.take i)):=oA;have oB:bu u y B i cb 37 1 cells:=oB;have fl:dW gC Q y ((List.range i).map λk:Nat=>dI x.d s.bJ (s.aI+k)) cells:=fl;have hQ:∀b,Q b->u.heap.size<=b/\b<y.heap.size/\A≠aL b/\B≠aL b:=hQ;have xy:=oA.ae;have aq:=av.trans xy;have zy:=xy.size;have br:=B3.ae xy;have et:=B5.ae xy;have Alt:∀b,A=aL b->u.heap.size<=b/\b<y.heap.size:=λb hb=>by
  rcases oA.form with⟨e,-⟩|⟨g,e,h1,h2,-⟩
  .rw[e] at hb;cases hb
  .rw[e] at hb;injection hb with hb;injection hb with hb;omega
 have ep:∀b,B=aL b->u.heap.size<=b/\b<y.heap.size:=λb hb=>by
  rcases oB.form with⟨e,-⟩|⟨g,e,h1,h2,-⟩
  .rw[e] at hb;cases hb
  .rw[e] at hb;injection hb with hb;injection hb with hb;omega
 refine bC<|bC<|ld (iv (s.fin-1)) (br.ai U)<|cD (λhle=>?_) λeh=>?_
 .have hle:s.aI+(i:Int)<=s.fin-1:=hle;have aa:i<N:=Y;obtain⟨wv,a6⟩:∃wv,wv=dI x.d s.bJ (s.aI+i):=⟨_,U⟩;have bA:wv.length=n2:=by rw[a6];unfold dI;rw[ik];omega
  have dy:=K.cv.PE (s.aI+i);rw[show nE x.d (cj s.bJ) (s.aI+i)=wv from a6.symm] at dy;refine bC<|ld (aB A2 n2 c2) (et.ai U)<|an<|i7 (sz:=1) (zv:=iv 0) n2 U rfl Y Y U Yd λO y1 bI=>?_;have t16:=bI.au;have qe:=bI.size;have Br:aP y1 O 3 (cJ (cn n2 λq=>if q<0 then bL wv q else 0)):=by
   have h:aP y1 O 3 ((List.replicate n2 (cz (iv 0))).flatten):=bI.aS;rw[show cz (iv 0)=[iv 0] from U] at h;have e1:(List.replicate n2 [iv 0]).flatten=cJ (cn n2 λq=>if q<0 then bL wv q else 0):=by unfold cJ cn;rw[auo];exact LR
   rw[e1] at h;exact h
  refine an<|aM (λf:Nat=>[(117,iv (f:Int))]) (λf v=>f<=n2/\aj (λb=>b≠O) y1 v/\aP v O 3 (cJ (cn n2 λq=>if q<f then bL wv q else 0))) (λf _=>n2-f) 0 ⟨U,Yt⟩ ⟨atc _,.refl _ _,Br⟩ U ?_;rintro Gc f v ⟨hf,kv,Bv⟩;have bt:ax y v:=bI.ae.ag kv λb hb _ e=>Y;have zv:=kv.size;refine cD (λbe=>?_) λcK=>?_
  .have be:f<n2:=by have:((f:Nat):Int)<n2:=be;omega
   have Mv:=(bq.ah xy Yt).ah bt Yt;refine hY [iv (f:Int),iv (s.aI+i)] Z<|dh (kv:=dE) ((f:Int),s.aI+(i:Int)) (iv (bL wv f)) (λz hz=>?_) ?_
   .subst hz;refine⟨_,Mv.g,?_⟩;rw[xj,xh,<-K.lit (w:=s.aI+i) (f:=f) Y,a6]
   refine idx f U be<|st Bv (by unfold cJ;rw[asz,dm];omega) U λv2 bT dO _=>eD (n:=(f:Int)+1) Y ?_;have bT:aP v2 O 3 ((cJ (cn n2 λq=>if q<f then bL wv q else 0)).set (0+f*1) (iv (bL wv f))):=bT;rw[show 0+f*1=f from Y,ij,iZ] at bT;refine next (f+1) ⟨Yn,Yt⟩ ⟨Y,kv.ag dO λb _ h=>h,gD bT ?_⟩ Y;funext q;by_cases e:q=f
   .rw[asp e,asp Y,e]
   .rw[aso e];by_cases e2:q<f
    .rw[asp e2,asp Y]
    .rw[aso e2,aso Y]
  have hfn:f=n2:=by have:¬((f:Nat):Int)<n2:=cK;omega
  have Bv:aP v O 3 (cJ wv):=by
   have e:(cn n2 λq=>if q<f then bL wv q else 0)=wv:=by rw[hfn];have h1:=AA (l:=wv);rw[bA] at h1;rw[h1];refine lU λq hq=>?_;rw[asp hq,<-h1]
   rw[e] at Bv;exact Bv
  clear hfn cK;have fe:bS cO (λ_=>True) v (aL O) n2 wv:=jL (rest:=[]) (by rw[asT];exact Bv) bA.symm (λz hz=>by have:=dy z hz;unfold jt;omega) Y Yt;refine fj [.string x.d.name,iv x.d.aG,iv x.d.cap,iv x.d.bH,aB A1 n1 c1,aB A2 n2 c2,aB A3 n3 c3,aB A4 n4 c4,aB A5 n5 c5,aB A6 n6 c6] (.aS (et.ae bt)) U<|aJ (Ic ((hd0.ae (aq.trans bt)).ar λ_ _ _=>Yt) fe) ?_;have dv:=K.cv.div h0 (s.aI+i);rw[<-a6] at dv;have nv:=K.cv.sB (s.aI+i);rw[<-a6] at nv;rintro _ v3 ⟨x3,⟨h,-⟩|⟨-,h,-⟩|⟨-,hs,bh,b0,rfl,r8,Bh⟩⟩
  .exact absurd dv h
  .rw[h] at nv;cases nv
  rw[nv] at b0;injection b0 with b0;have R:=K.cv.rdy h0 (s.aI+i);have lhs:hs.length=x.d.aD.length:=by rw[<-b0];exact R.lh
  refine cN (λh=>absurd U h) λ_=>an<|cE (λh=>absurd h Y) λ_=>?_;have hc0:(cJ hs)[0]? =some (iv (bL hs 0)):=by unfold cJ;rw[as6,asw Y];show some (iv _)=_;rw[cY (asw Y)]
  refine idx 0 U Y<|ld (iv (bL hs 0)) (Bh.ai hc0)<|lit [iv (bL hs 0)] λga v4 qa=>?_;have df:=bt.trans x3;have bw:=df.trans qa.ae;have oq:=bw.size;have p0:=qa.ae.size;have ou:=x3.size;refine iI (oA.ag bw) (qa.src (sz:=1) U) Y λA' ib v5 fW kA mo=>?_;have zA:=kA.size;refine lit [aB (aL O) n2 n2] λgb v6 qb=>?_;have oO:=qb.size;have db:=Ts oB oA Yd;refine iI (((oB.ag bw).bY kA (λg hg=>db g hg) fW.ae).ag qb.ae) (qb.src (sz:=1) U) Y λB' nf v7 fU kB lN=>?_;have zB:=kB.size;refine go ?_;have hA8:∀g,A'=aL g->A=aL g\/v4.heap.size<=g:=λg hg=>by
   rcases mo with e|e|e
   .exact .inl (e.symm.trans hg)
   .rw[e] at hg;cases hg
   .exact TR
  have lI:∀g,B'=aL g->B=aL g\/v6.heap.size<=g:=λg hg=>by
   rcases lN with e|e|e
   .exact .inl (e.symm.trans hg)
   .rw[e] at hg;cases hg
   .exact TR
  have k47:aj (λb=>A≠aL b/\B≠aL b) v4 v7:=((kA.cU λb _ h=>h.1).ag qb.ae λ_ _ _=>Yt).ag kB λb _ h=>h.2;have lu:∀b,(Q b\/b=O)->b<v4.heap.size/\u.heap.size<=b/\A≠aL b/\B≠aL b:=λb hb=>by
   rcases hb with hb|hb
   .have:=hQ b hb;exact⟨Y,this.1,this.2.2.1,this.2.2.2⟩
   .subst hb;exact⟨Y,Y,λe=>by have:=Alt _ e;omega,λe=>by have:=ep _ e;omega⟩
  refine next (i+1,(A',ib),B',nf) ⟨by show iv _=iv _;rw[asA];congr 1;show s.aI+(i:Int)+1=s.aI+((i:Int)+1);omega,U,U,Yt⟩ ⟨aa,?_,cells++[aB (aL O) n2 n2],λb=>Q b\/b=O,fU,?_,λb hb=>?_⟩ (by show N-(i+1)<N-i;omega)
  .have h9:nd[i]? =some (bL hs 0):=by rw[hnd,<-b0];unfold bV;rw[as6,atU aa];rfl
   show bu u v7 A' (i+1) ib 3 1 (cJ (nd.take (i+1)));rw[asD,h9];have e9:cJ (nd.take i++(some (bL hs 0)).toList)=cJ (nd.take i)++[iv (bL hs 0)]:=by unfold cJ;rw[asK];rfl
   rw[e9];refine(fW.ag qb.ae).bY kB (λg hg e=>?_) fU.ae;rcases hA8 g hg with h|h
   .exact db g e h
   .have:=ep g e;omega
  .show dW gC _ v7 ((List.range (i+1)).map λk:Nat=>dI x.d s.bJ (s.aI+k)) _;rw[atn,asK];refine dW.app ((fl.di λb hb hD=>((ax.any (D:=λb=>A≠aL b/\B≠aL b) bw).trans k47).aS b hb ⟨(hQ b hD).2.2.1,(hQ b hD).2.2.2⟩).ar λb _ h=>.inl h) (.one ⟨_,_,_,U,?_,asN _⟩);show bS cO _ _ _ _ (dI x.d s.bJ (s.aI+(i:Int)));rw[<-a6];have ob:=(Bv.ae (x3.trans qa.ae)).ah k47 ⟨λe=>by have:=Alt _ e;omega,λe=>by have:=ep _ e;omega⟩;exact jL (rest:=[]) (by rw[asT];exact ob) bA.symm (λz hz=>by have:=dy z hz;unfold jt;omega) Y (.inr U)
  .have h:=lu b hb;refine⟨h.2.1,by show b<v7.heap.size;omega,λe=>?_,λe=>?_⟩
   .rcases hA8 b e with q|q
    .exact h.2.2.1 q
    .omega
   .rcases lI b e with q|q
    .exact h.2.2.2 q
    .omega
 have eh:¬s.aI+(i:Int)<=s.fin-1:=eh;have aa:i=N:=Y;rw[aa,asx Y] at oA;rw[aa] at fl oB;have o4:=bq.ah xy Yt;have j1:=bp.ah xy Yt;rw[aa];clear eh;rcases Bool.eq_false_or_eq_true s.short with hsh|hsh;rotate_left
 .refine bC<|ld (.bool false) (by rw[<-hsh];exact br.ai U) ?_;obtain⟨L,cL,hE,lB,hL⟩:=o4;refine U3 (kv:=dE) U hE λy5 lC hV x5 z5=>?_;obtain⟨it,lf⟩:∃it,it=y.heap.size:=⟨_,U⟩;rw[<-lf] at hV|-;refine aM (λ_:List Nat=>[]) (λseen z=>qX dE z g1 L cL/\IterM z it g1 cL seen/\aj (λb=>b≠it) y5 z) (λseen _=>(L.filter λx=>!seen.contains x.born).length) [] Yt ⟨lC,hV,.refl _ _⟩ U ?_;rintro Gd seen z ⟨Ez,Iz,kz⟩;have xz:ax y z:=x5.ag kz λb hb _ e=>Y;refine U4 (kv:=dE) U Ez Iz (λ_=>?_) λe he hns u1 Eu1 Iu1 ku1 ow=>?_
  .exact aQ (.bool true) U ⟨U,aq.trans xz⟩
  .obtain⟨q,n,hek,hev,cT⟩:∃q n,e.key=dE q/\e.val=iv n/\i6 (sM x.d s.bJ) q=some n:=by
    obtain⟨q,hq⟩:=hE.keys e he;have h1:=nI lB he;rw[hq] at h1;have h1:=(hL q).symm.trans h1;simp only at h1;cases hg:i6 (sM x.d s.bJ) q with
    |none=>rw[hg] at h1;cases h1
    |some n=>rw[hg] at h1;injection h1 with h1;exact⟨q,n,hq,h1.symm,hg⟩
   refine amP (kv:=dE) U Eu1 he Iu1 ?_;rw[hek,hev];have hF:=Il he hns;refine alloc λb6 u2 q2=>jR (vs:=[iv q.1,iv q.2]) q2.aS U Yl Ys λu3 B6 k3 oL=>?_;have e6:=q2.au;have B6:aP u3 b6 130 [iv q.1,iv q.2]:=B6;have x13:ax u1 u3:=q2.ae.ag k3 λb hb _ e=>Y;have gd:aj (λb=>b≠it) z u3:=ku1.ag x13 λ_ _ _=>Yt;have j5:ax y u3:=xz.ag gd λb hb _ e=>Y;have nL:=j1.ah j5 Yt;obtain⟨p,hp,bG⟩:=JO cT;obtain⟨c,hc,rfl⟩:=asS.1 hp;have bG:q=(c.aO,dH x.d c):=bG;have r6:=gm c hc;have lp:=(hcm c hc).1;have bg:=K.full hsh (i:=(dH x.d c-s.aI).toNat) (f:=c.aO.toNat) Y Y;rw[show s.aI+(((dH x.d c-s.aI).toNat:Nat):Int)=dH x.d c from Y,show((c.aO.toNat:Nat):Int)=c.aO from Y] at bg;have l0:n=jP x.d s.bJ (dH x.d c,c.aO):=by rw[<-xh,<-bG,cT];rfl
   refine go ?_;refine dh (kv:=dE) q (iv n) (λzz hz=>by subst hz;refine⟨_,nL.g,?_⟩;rw[xj,bG,xi,bg,l0]) ?_
   refine cN (λh=>absurd U h) λ_=>next (seen++[e.born]) Yt ⟨Eu1.ah x13 Yt,Iu1.ah x13 Yt,kz.trans gd⟩ hF
 .refine bC<|ld (.bool true) (by rw[<-hsh];exact br.ai U) ?_;obtain⟨bf,Pb,-⟩:=K.ex;have r5:=Pb.fr;have fs:∀v∈nd,0<=v/\v<=1073741824:=by rw[hnd];exact tF K.cv h0
  have snd:bS cO (λ_=>True) y A N nd:=oA.ints (D:=λ_=>True) (λv hv=>by have:=fs v hv;unfold jt;omega) Y λ_ _=>Yt;refine bC<|ld (iv s.free) (br.ai U)<|aJ (Kw snd (by unfold jt;omega)) ?_;rintro _ y1 ⟨x1,m,rfl,hm⟩;have te:=K.jX hsh;rw[<-hN,<-hnd] at te;rw[te];refine alloc λnl y2 a23=>jR (vs:=kQ m) a23.aS U Yl (by simp[kQ,Value.oneCell']) λy3 B23 kl _=>?_;have B23:aP y3 nl 134 (kQ m):=B23;have t23:=a23.au;have x13:ax y1 y3:=a23.ae.ag kl λb hb _ e=>Y;have df:=x1.trans x13;refine cN (λh=>absurd U h) λ_=>?_;have fi:bS gC (λ_=>True) y B N ((List.range N).map λk:Nat=>dI x.d s.bJ (s.aI+k)):=oB.own.rd (a:=gC) (fl.ar λ_ _ _=>Yt) (by rw[asz,as3]) Y λ_ _=>Yt;have lr:=hm.vm te;refine an<|aM (λt:Nat=>[(183,iv (t:Int))]) (λt z=>t<=N/\ax y3 z) (λt _=>N-t) 0 ⟨U,Yt⟩ ⟨atc _,.refl _ _⟩ U ?_;rintro Ge t z ⟨ht,xz⟩;have a7:=df.trans xz;refine cD (λJ=>?_) λ_=>?_;rotate_left
  .exact aQ (.bool true) U ⟨U,aq.trans a7⟩
  have J:t<N:=by have:((t:Nat):Int)<N:=J;omega
  obtain⟨bb,bo,rL,wv,hB,bE,-,-,hbc,Aw,nw,cw,rfl,sw,-⟩:=(fi.ae a7).au J;obtain⟨ab,ao,nz,nt,hA,gr,-,-,hac,rfl,-⟩:=(snd.ae a7).au J;have bk:wv=dI x.d s.bJ (s.aI+t):=by rw[as6,atU J] at bE;injection bE with bE;exact bE.symm
  have ent:nt=bL (bV x.d s.bJ s.aI (pM x s.aI)) t:=by rw[<-hN,<-hnd,cY gr]
  have r3:=fs nt (asq gr);have hC:dX s.free (bV x.d s.bJ s.aI (pM x s.aI)) m:=by rw[<-hN,<-hnd];exact hm
  have eg:=K.arF hsh hC (i:=t) Y;rw[<-ent] at eg;have j3:=B23.ae xz;have j2:=et.ae a7;have oe:=br.ae a7;rw[hB];refine idx t U J<|ld (aB Aw nw cw) (hbc 0 _ U) ?_;rw[hA];refine bR (oP [6] [] [0,1,2,3,4,5,6,7,8,9,10,11]) [] (λq=>ax z q) mx Z (.refl _ _)<|tM (kQ m) (.aS j3) U Yt (.refl _ _)<|idx t U J<|fu (iv nt) (hac 0 _ U) Yt (.refl _ _)<|bW (QH (m:=m) (i:=(t:Int)) (c:=nt)) λz1 ak=>?_;rw[QT lr Y,asp U];refine bN ak ?_;have dv:=K.cv.div h0 (s.aI+t);have nv:=K.cv.sB (s.aI+t);rw[<-bk] at dv nv;have hW:mP x.d wv (dC m nt t)=0:=Ij.2 ⟨qp.2 ⟨dv,_,nv⟩,eg.1,Y⟩;refine fj [.string x.d.name,iv x.d.aG,iv x.d.cap,iv x.d.bH,aB A1 n1 c1,aB A2 n2 c2,aB A3 n3 c3,aB A4 n4 c4,aB A5 n5 c5,aB A6 n6 c6] (.aS (j2.ae ak)) U<|aJ (KC (E:=dC m nt t) ((hd0.ae ((aq.trans a7).trans ak)).ar λ_ _ _=>Yt) ((sw.ae ak).ar Yd λ_ _ _=>Yt)) ?_;rintro _ z2 ⟨Hh,nh,ch,Gg,ng,cg,Mm,nm,cm,rfl,j4,hcut⟩;obtain⟨lh,lg,lm,hs',hM,aw,mk,bh,ba,bm,gF,R,DV,oh,oa,rfl,rfl,rfl,Bh,Ba,Bm,-⟩:=hcut.ok hW;rw[hW];refine alloc λni z3 eo=>jR (vs:=[aB (aL bh) nh ch,aB (aL ba) ng cg,aB (aL bm) nm cm]) eo.aS U Yl Ys λz4 ck kj _=>?_;have ck:aP z4 ni 140 [aB (aL bh) nh ch,aB (aL ba) ng cg,aB (aL bm) nm cm]:=ck;have t29:=eo.au;have cp:ax z2 z4:=eo.ae.ag kj λb hb _ e=>Y;have af:=(ak.trans j4).trans cp;have oc:=Bm.ae cp;have ew:=j2.ae af;refine cN (λh=>absurd U h) λ_=>cN (λh=>absurd U h) λ_=>bC<|ld (aB (aL bm) nm cm) (ck.ai U)<|an<|bC<|ld (aB A1 n1 c1) (ew.ai U)<|an<|cN (λh=>absurd Y h) λ_=>bC<|ld (aB A2 n2 c2) (ew.ai U)<|an ?_;have bA:nw=n2:=by rw[<-sw.an,bk];unfold dI;rw[ik];omega
  refine aM (λf:Nat=>[(223,iv (f:Int))]) (λf q=>f<=n2/\ax z4 q) (λf _=>n2-f) 0 ⟨U,Yt⟩ ⟨atc _,.refl _ _⟩ U ?_;rintro Gf f q ⟨hf,xq⟩;have eL:=af.trans xq;refine cD (λcI=>?_) λ_=>?_;rotate_left
  .refine eD (n:=(t:Int)+1) Y<|next (t+1) ⟨Yn,Yt⟩ ⟨Y,xz.trans eL⟩ Y
  have cI:f<n2:=by have:((f:Nat):Int)<n2:=cI;omega
  refine fj [.string x.d.name,iv x.d.aG,iv x.d.cap,iv x.d.bH,aB A1 n1 c1,aB A2 n2 c2,aB A3 n3 c3,aB A4 n4 c4,aB A5 n5 c5,aB A6 n6 c6] (.aS (ew.ae xq)) U<|aJ (U9 (i:=(f:Int)) (hd0.ae ((aq.trans a7).trans eL))) ?_;have gq:rQ x.d (f:Int)=0:=by unfold rQ;rw[aso λh=>h h0,asp Y]
  rintro _ q1 ⟨eS,⟨h,-⟩|⟨-,k,rfl,hk⟩⟩
  .exact absurd gq h
  rw[show(f:Int).toNat=f from U] at hk;have hfi:=V.fm f Y;obtain⟨r,gp⟩:∃r:Nat,(jh x.d f).aZ=r:=⟨(jh x.d f).aZ.toNat,Y⟩;rw[show(f:Int).toNat=f from U,gp];rw[gp] at hk;have ef:r<x.d.aD.length:=Y;have hok:=DV.ok R eg.1 ef;obtain⟨tE,-⟩:=R.work (hd:=hM) ef hok;have A0:=DV.au r ef;have lq:=A0.mark.vm tE;obtain⟨pe,pl⟩:=H4 (cl:=wv) (hs:=hs') hk;have pe:bL (dg x.d wv hs' r) k=bL wv f:=pe;have ct:=A0.aO k f hk;rw[pe] at ct;have rI:=jK R.QW f;have oi:=R.v.an (cl:=wv) (hs:=hs') (r:=r);have qn:=DV.lm;have bx:=xq.trans eS;have dd:=ck.ae bx;refine cN (λh=>absurd U h) λ_=>cD (λh=>absurd (show(r:Int)<0 from h) Y) λ_=>bC<|ld (aB (aL bm) nm cm) (dd.ai U)<|an<|cD (λh=>absurd (show(r:Int)>=(nm:Int) from h) Y) λ_=>?_;obtain⟨wb,wo,pr,wx,lO,kr,-,-,gn,rfl,-⟩:=(sw.ae (af.trans bx)).au (show f<nw from Y);have nc:wx=bL wv f:=(cY kr).symm;rw[lO];refine bR (oP [10] [] [0,1,2,3,4,5,6,7,8,9,10,11,12,13,14,15]) [] (λp=>ax q1 p) mx Z (.refl _ _)<|bC<|fu (aB (aL bm) nm cm) (dd.ai U) Yt (.refl _ _)<|idx r U Y<|tM (kQ (DN mk r)) (aqB (oc.ae bx) Y) U Yt (.refl _ _)<|idx f U Y<|fu (iv wx) (gn 0 _ U) Yt (.refl _ _)<|bW (QH (m:=DN mk r) (i:=(k:Int)) (c:=wx)) λq2 dp=>?_;rw[QT lq Y,asp U];refine bN dp ?_;have cr:=bx.trans dp;refine cN (λh=>absurd U h) λ_=>bC<|bC<|ld (iv s.aI) ((oe.ae (af.trans cr)).ai U)<|eD (n:=s.aI+(t:Int)) Y<|hY [iv (f:Int),iv (s.aI+t)] Z ?_;have o3:=j1.ah (a7.trans (af.trans cr)) Yt;have ei:=K.cut hsh hC (i:=t) (f:=f) Y Y (hs:=hs') (hd:=hM) (aw:=aw) (mk:=mk) (by rw[<-bk];exact gF) (by rw[<-bk];exact R) (by rw[<-bk,<-ent];exact DV);refine dh (kv:=dE) ((f:Int),s.aI+(t:Int)) (iv (dC (DN mk r) wx k)) (λzz hz=>by subst hz;refine⟨_,o3.g,?_⟩;rw[xj,xi,ei,ct,nc]) ?_
  refine cN (λh=>absurd U h) λ_=>eD (n:=(f:Int)+1) Y<|next (f+1) ⟨Yn,Yt⟩ ⟨Y,xq.trans (eS.trans dp)⟩ Y
end
theorem FE{f:Nat}{c:Cm}{a:Int}:∀{l:List Cm} {az:aX},l.length=az.length->my (l++[c]) (az++[a]) f=my l az f+if c.aO=(f:Int) then a else 0
 |[],[],_=>by show(if c.aO=(f:Int) then a else 0)+0=0+_;omega
 |_::_,[],h=>by cases h
 |[],_::_,h=>by cases h
 |y::l,b::az,h=>by
  rw[atC,atC,my,my,FE (by simpa using h)];omega
theorem LN{f:Nat}:∀{l:List Cm} {az:aX},(∀p∈l.zip az,0<=p.2/\p.2<=1073741824)->0<=my l az f/\my l az f<=l.length*1073741824
 |[],az,_=>by cases az<;>exact⟨asO _,by show(0:Int)<=_;simp⟩
 |_::_,[],_=>⟨asO _,by show(0:Int)<=_;omega⟩
 |y::l,b::az,h=>by
  have z:=LN (f:=f) (l:=l) (az:=az) λp u=>h p (by rw[auL];exact ast _ u)
  have A:=h (y,b) (by rw[auL];exact ass)
  rw[my,as2]
  split<;>omega
theorem oM.awb{x:cM}{s:pK}(K:oM x s):∀p∈s.bJ.zip s.cQ,0<=p.2/\p.2<=1073741824:=λp u=>by
 have h1:0<=p.2/\p.2<=p.1.aC:=by
  have h:∀p∈s.bJ.zip s.cQ,0<=p.2/\p.2<=p.1.aC:=by rw[K.part];exact LA K.prt.pos λc z=>by have:=(eF K.so c z).2.2;omega
  exact h p u
 have:=(K.so.1 p.1 (aww u).1).2.2.2.1;omega
theorem oM.svl{x:cM}{s:pK}(K:oM x s):s.bJ.length<=4096:=by
 obtain⟨bf,P,e⟩:=K.ex;have:=qI P;rw[<-e] at this;exact this
theorem oM.awl{x:cM}{s:pK}(K:oM x s):s.cQ.length=s.bJ.length:=by rw[K.part];exact pL
section
variable {w:World}
set_option maxRecDepth 8000 in
theorem Ps{eh:aW}{x:cM}(hx:iu (λb=>b<w.heap.size) w eh x):aA 3 #[.agg eh.toArray] w (.bool true):=by
 have hx0:=hx;obtain⟨lO,G1,m1,e1,G2,m2,e2,G3,m3,e3,G4,m4,e4,G5,m5,e5,G6,m6,e6,G7,m7,e7,G8,m8,e8,rfl,hd,-,-,cr,-⟩:=hx.ex;obtain⟨A1,n1,c1,A2,n2,c2,A3,n3,c3,A4,n4,c4,A5,n5,c5,A6,n6,c6,rfl,-,h9,-⟩:=hd.ex;have fa:=h9.an;have lf:=cr.an;have j2:=cr.le;refine aF (args:=[.agg ([.string x.d.name,iv x.d.aG,iv x.d.cap,iv x.d.bH,aB A1 n1 c1,aB A2 n2 c2,aB A3 n3 c3,aB A4 n4 c4,aB A5 n5 c5,aB A6 n6 c6]++[iv x.every,aB G1 m1 e1,aB G2 m2 e2,aB G3 m3 e3,aB G4 m4 e4,aB G5 m5 e5,aB G6 m6 e6,aB G7 m7 e7,aB G8 m8 e8]).toArray]) func3 Z<|box λb1 w1 h1=>?_;have B1:=h1.aS;refine bW Po λw2 x2=>?_;have x02:=h1.ae.trans x2;have B1:=B1.ae x2;refine go ?_;have db:iu (λb=>b<w2.heap.size) w2 ([.string x.d.name,iv x.d.aG,iv x.d.cap,iv x.d.bH,aB A1 n1 c1,aB A2 n2 c2,aB A3 n3 c3,aB A4 n4 c4,aB A5 n5 c5,aB A6 n6 c6]++[iv x.every,aB G1 m1 e1,aB G2 m2 e2,aB G3 m3 e3,aB G4 m4 e4,aB G5 m5 e5,aB G6 m6 e6,aB G7 m7 e7,aB G8 m8 e8]) x:=(hx0.ae x02).ar λb _ hb=>by have:=x02.size;omega
 refine aJ (Tz db) ?_;rintro _ w3 ⟨b,rfl,hb,x3⟩;have x03:=x02.trans x3;cases b with
 |false=>exact aQ _ U ⟨U,x03⟩
 |true=>
 have few:=hb U;have fp:=few.p;have B1:=B1.ae x3;have hx3:=(db.ae x3).ar λb hb _=>hb;refine go ?_;refine aJ (Ds hx3 few) ?_;rintro _ w4 ⟨x4,cs,rfl,hl,h0,hok⟩;refine alloc λb3 w5 h5=>?_;have t5:=h5.au;by_cases e:ir x=0;rotate_left
 .have hT:=h0 e;subst hT;refine jR (vs:=pa) h5.aS U Yl (λu hu=>asH.1 (show(pa.all λu=>u.oneCell')=true from U) u hu) λw6 B3 k6 _=>?_;refine Zq ?_;intro x46 x36;rintro _ w7 ⟨x7,Al,nl,cl,rfl,gl,-⟩;obtain⟨rfl,rfl⟩:=gl e;refine cN (λ_=>?_) λh=>absurd h e;refine cE (λ_=>?_) λh=>absurd U h;refine an ?_;refine cE (λ_=>?_) λh=>absurd U h;refine go ?_;refine ld _ ((B3.ae x7).ai U) ?_;refine an ?_;refine cE (λ_=>?_) λh=>absurd U h;exact aQ _ U ⟨U,x03.trans (x36.trans x7)⟩
 obtain⟨⟨As,ns,nc,Ao,no,co,lN,Aa,na,ca,Ag,ng,cg,Ap,np,cp,Aq,nq,cq,rfl,sS,hr,sA,sG,-,sQ⟩,hblk⟩:=hok e;obtain⟨R1,q1,r1,R2,q2,r2,R3,q3,r3,R4,q4,r4,R5,q5,r5,R6,q6,r6,R7,q7,r7,rfl,-,-,-,-,-,sT,-⟩:=hr.ex;have P:Tx x:=⟨e,hblk⟩;have I:=P.I;rw[e];refine fg h5.aS λw6 B3 k6 _=>?_;obtain⟨rv,gd⟩:∃r:Int,r=(dP (aV (gB x.dr (x.eG.map (je x)))) (LJ x)).2:=⟨_,U⟩;rw[<-gd] at B3;refine Zq ?_;intro x46 x36;rintro _ w7 ⟨x7,Al,nl,cl,rfl,-,gi⟩;have ol:=gi e;rw[e];have O:=x46.trans x7;have bT:=x03.trans (x4.trans O);have B3:=B3.ae x7;have B1:=B1.ae (x4.trans O);have sS:=sS.ae O;have sT:=sT.ae O;have sA:=sA.ae O;have sG:=sG.ae O;have sQ:=sQ.ae O;have lS:=sS.an;have lq:na=n2:=by rw[<-sA.an];unfold eZ;rw[asz,as3];omega
 have ll:ng=n2:=by rw[<-sG.an];unfold iE;rw[asz,as3];omega
 have l0:nq=n2:=by rw[<-sQ.an];exact(Tx.arD (x:=x)).trans fa
 have lr:q6=n2:=by rw[<-sT.an];show(rb x.d.aR.length _ _).length=n2;unfold rb;rw[asz,as3];omega
 have l3:nl=n2:=by have h:=ol.own.an;unfold cJ Ea at h;rw[asz,dm] at h;omega
 have f6:=fp.f;refine cN (λh=>absurd U h) λ_=>?_;refine cN (λh=>absurd U h) λ_=>?_;refine ao1 ?_;refine ao1 ?_;refine go ?_;refine cN (λh=>absurd Y h) λ_=>?_;refine i7 (sz:=1) (zv:=iv 0) n2 U rfl Y Y U Yd λb8 w8 a8=>?_;have t8:=a8.au;have s8:=a8.size;have kj:=bT.trans a8.ae;obtain⟨SS,bo⟩:∃S,S=(ia x).gK:=⟨_,U⟩;rw[<-bo] at sS lS;have bx:∀s∈SS,oM x s:=λs hs=>I.iw s (by rw[bo] at hs;exact hs);have lG:SS.length<=24:=by have h1:=Nv (x:=x) (fz x);have h2:=P.nb fp;rw[bo];show(cy x (fz x)).gK.length<=24;omega
 obtain⟨TV,bk⟩:∃T:Nat->Nat->Int,T=λj f=>aV ((SS.take j).map λs=>my s.bJ s.cQ f):=⟨_,U⟩;have hV:∀j f,0<=TV j f/\TV j f<=24*4398046511104:=λj f=>by
  have h:∀l:List pK,(∀s∈l,oM x s)->0<=aV (l.map λs=>my s.bJ s.cQ f)/\aV (l.map λs=>my s.bJ s.cQ f)<=l.length*4398046511104:=by
   intro l;induction l with
   |nil=>intro _;exact⟨asO _,by show(0:Int)<=0*4398046511104;omega⟩
   |cons s l ih=>
    intro hl;have h1:=ih λy hy=>hl y (ast _ hy);have K:=hl s ass;have h2:=LN (f:=f) K.awb;have h3:=K.svl;exact YW
  have h1:=h (SS.take j) λs hs=>bx s (asW hs);rw[asF] at h1;rw[bk];show 0<=aV _/\aV _<=_;omega
 have B8:aP w8 b8 3 (cJ (cn n2 (TV 0))):=by
  have h:=a8.aS;rw[show cz (iv 0)=[iv 0] from U] at h;have e1:(List.replicate n2 [iv 0]).flatten=cJ (cn n2 (TV 0)):=by rw[bk];unfold cJ cn;rw[auo];refine at8 (by simp) λi h1 h2=>by simp[aV]
  rw[e1] at h;exact h
 refine go ?_;refine ld _ ((B3.ae a8.ae).ai U) ?_;refine an ?_;refine aM (λj:Nat=>[(97,iv (j:Int))]) (λj u=>j<=ns/\aj (λb=>b≠b8) w8 u/\aP u b8 3 (cJ (cn n2 (TV j)))) (λj _=>ns-j) 0 ⟨U,Yt⟩ ⟨atc _,.refl _ _,B8⟩ U ?_;rintro Ga j u ⟨hj,ku,Bu⟩;have J:=a8.ae.ag ku λb hb _ e=>Y;have be:=bT.trans J;have zu:=ku.size;have ej:=B1.ae J;have B3u:=B3.ae J;refine cD (λhlt=>?_) λhge=>?_
 .obtain⟨sb,so,kn,s,hL,hs,-,-,ga,bA⟩:=(sS.ae J).au (show j<ns from Y);have hsm:=asq hs;have K:=bx s hsm;have ck:=bA;obtain⟨C1,k1,d1,C2,k2,d2,C3,k3,d3,rfl,-,s2,s3⟩:=bA;have l8:=s2.an;have l4:=s3.an;have kW:=K.awl;have svl:=K.svl;rw[hL];refine idx j U Y<|fj _ ga U<|alloc λb10 u1 br=>jR (vs:=[iv s.aI,iv s.aI,iv (s.fin-1),iv s.free,aB C1 k1 d1,aB C2 k2 d2,aB C3 k3 d3,.bool s.short]) br.aS U Yl Ys λu2 B10 fs _=>?_;have t10:=br.au;have kB:=br.size;have xu2:=br.ae.ag fs λb hb _ e=>Y;have j5:=xu2.size;refine go ?_;refine cN (λh=>absurd Y h) λ_=>?_;refine go ?_;refine ld _ ((ej.ae xu2).ai U) ?_;refine an ?_;refine HB (λ(k:Nat) (fb:Bool)=>[(111,iv (k:Int)),(11,.bool fb)]) (λk fb v=>k<=m3/\ax u2 v/\fb=(x.vj.take k).any λy=>decide (y.aH<=s.aI)) (λk _ _=>m3-k) 0 false ⟨U,U,Yt⟩ ⟨atc _,.refl _ _,U⟩ U ?_;rintro Gi k fb v ⟨hk,xv,cw⟩;refine cD (λhlt2=>?_) λhge2=>?_
  .have hlt2:k<m3:=by have:((k:Nat):Int)<m3:=hlt2;omega
   obtain⟨jb,jo,lu,y,hF,hy,-,-,lB,rfl⟩:=(cr.ae (be.trans (xu2.trans xv))).au hlt2;have htk:(x.vj.take (k+1)).any (λy=>decide (y.aH<=s.aI))=((x.vj.take k).any (λy=>decide (y.aH<=s.aI)) ||decide (y.aH<=s.aI)):=by rw[asD,hy,awD];simp
   rw[<-cw] at htk;rw[hF];refine idx k U hlt2 ?_;refine go ?_;refine alloc λnf v1 cI=>?_;refine fg cI.aS λv2 nh k13 _=>?_;have t13:=cI.au;have ew:=cI.ae.ag k13 λb hb _ e=>Y;have b0:=xv.trans ew;cases fb with
   |true=>
    refine go ?_;exact rr (k+1) true ⟨Yn,U,Yt⟩ ⟨Y,b0,by rw[htk];rfl⟩ Y
   |false=>
    refine go ?_;refine ld _ ((B10.ae b0).ai U) ?_;refine cD (λg=>?_) λg=>?_
    .refine go ?_;exact rr (k+1) true ⟨Yn,U,Yt⟩ ⟨Y,b0,by rw[htk,asE g];rfl⟩ Y
    .refine go ?_;exact rr (k+1) false ⟨Yn,U,Yt⟩ ⟨Y,b0,by rw[htk,asG g];rfl⟩ Y
  have gn:k=m3:=by have:¬((k:Nat):Int)<m3:=hge2;omega
  rw[gn,asx Y] at cw;have cL:=be.trans (xu2.trans xv);have j0:=ej.ae (xu2.trans xv);have bG:=B10.ae xv;have c8:iu (λb=>b<v.heap.size) v ([.string x.d.name,iv x.d.aG,iv x.d.cap,iv x.d.bH,aB A1 n1 c1,aB A2 n2 c2,aB A3 n3 c3,aB A4 n4 c4,aB A5 n5 c5,aB A6 n6 c6]++[iv x.every,aB G1 m1 e1,aB G2 m2 e2,aB G3 m3 e3,aB G4 m4 e4,aB G5 m5 e5,aB G6 m6 e6,aB G7 m7 e7,aB G8 m8 e8]) x:=(hx0.ae cL).ar λb _ hb=>by have:=cL.size;omega
  have a6:vq.uF (λ_=>True) v [iv s.aI,iv s.aI,iv (s.fin-1),iv s.free,aB C1 k1 d1,aB C2 k2 d2,aB C3 k3 d3,.bool s.short] s:=vq.ar (λ_ _ _=>Yt) (vq.di (λb hb _=>(xu2.trans xv).aS b hb Yt) ck);cases fb;case' false=>
   refine go ?_;refine aJ (LL c8 a6 K few.eW λy hy hle=>by have h:=List.any_eq_false.1 cw.symm y hy;exact h (asE hle)) ?_
   rintro _ va ⟨rfl,af⟩;refine fj ([.string x.d.name,iv x.d.aG,iv x.d.cap,iv x.d.bH,aB A1 n1 c1,aB A2 n2 c2,aB A3 n3 c3,aB A4 n4 c4,aB A5 n5 c5,aB A6 n6 c6]++[iv x.every,aB G1 m1 e1,aB G2 m2 e2,aB G3 m3 e3,aB G4 m4 e4,aB G5 m5 e5,aB G6 m6 e6,aB G7 m7 e7,aB G8 m8 e8]) (.aS (j0.ae af)) U ?_;refine fj [iv s.aI,iv s.aI,iv (s.fin-1),iv s.free,aB C1 k1 d1,aB C2 k2 d2,aB C3 k3 d3,.bool s.short] (.aS (bG.ae af)) U ?_;refine bW (FD ((c8.ae af).ar λb _ hb=>by have:=af.size;omega) (vq.di (λb hb _=>af.aS b hb Yt) a6) K fp svl) λv1 et=>?_;have bI:=af.trans et
  case' true=>
   refine go ?_;refine bW (FD c8 a6 K fp svl) λv1 bI=>?_
  all_goals
   have ep:=bG.ae bI;have ak:=xu2.trans (xv.trans bI);have ib:=Bu.ae ak;have j4:=ak.size;have eL:=be.trans ak;have fe:aj (λb=>b≠b8) w8 v1:=ku.ag ak λ_ _ _=>Yt;have lp:=Bu.lt;have cT:b10≠b8:=Y;refine go ?_;refine aM (λi:Nat=>[(141,iv (i:Int))]) (λi z=>i<=k2/\aj (λb=>b≠b8) v1 z/\aP z b8 3 (cJ (cn n2 λf=>TV j f+my (s.bJ.take i) (s.cQ.take i) f))) (λi _=>k2-i) 0 ⟨U,Yt⟩ ⟨atc _,.refl _ _,gD ib (by funext f;rw[atg,atg];show TV j f=TV j f+0;omega)⟩ U ?_
   rintro Gj i z ⟨hi,kz,Bz⟩;have kc:ax w z:=eL.ag kz λb hb _=>by have:=bT.size;omega
   refine cD (λa7=>?_) λdx=>?_
   .have a7:i<k2:=by have:((i:Nat):Int)<k2:=a7;omega
    have cK:aj (λb=>b≠b8) u z:=(ax.any ak).trans kz;obtain⟨cb,co,mo,c,hI,hc,-,dO,hcc,rfl⟩:=s2.au a7;obtain⟨ab,ao,hZ,a,hG,ha,-,ec,hac,rfl,-⟩:=s3.au (show i<k3 from Y);have dO:cb<w4.heap.size:=dO;have ec:ab<w4.heap.size:=ec;have kb:=O.size;have j3:bF z cb (co+i*5) (bM c):=λt v hv=>cK.ai (hcc t v hv) (show cb≠b8 from Y);have eb:z.cell? (ad ab (ao+i*1))=some (iv a):=cK.ai (hac 0 _ U) (show ab≠b8 from Y);obtain⟨lC,-,-⟩:=eF K.so c (asq hc);have hab:=K.awb (c,a) (asq (i:=i) (auu.2 ⟨hc,ha⟩));have hab:0<=a/\a<=1073741824:=hab;have dy:=λf=>LN (f:=f) (l:=s.bJ.take i) (az:=s.cQ.take i) λp hp=>K.awb p (JP hp);have htk:∀f,my (s.bJ.take (i+1)) (s.cQ.take (i+1)) f=my (s.bJ.take i) (s.cQ.take i) f+if c.aO=(f:Int) then a else 0:=λf=>by rw[asD,hc,asD,ha];exact FE (by rw[asF,asF];omega)
    rw[hI];refine idx i U a7 ?_;refine go ?_;refine alloc λhW z1 bp=>?_;refine fg bp.aS λz2 en k15 _=>?_;have en:aP z2 hW 65 (bM c):=en;have t15:=bp.au;have kr:=bp.size;have j8:=kz.size;have ay:ax z z2:=bp.ae.ag k15 λb hb _ e=>Y;have eo:=(ep.ah kz cT).ae ay;have ei:=Bz.ae ay;rw[hG] at eo;obtain⟨fi,hfi⟩:∃f:Nat,f=c.aO.toNat:=⟨_,U⟩;have av:fi<n2:=Y;have h1:=hV j fi;have h2:=dy fi;rw[asF] at h2;refine bR (oP [12] [12] [0,1,2,3,4,5,6,7,8,9,10,11,12]) [12] (λq=>q=z2) mx Z U ?_;refine go ?_;refine idx fi Y av ?_;refine ld (iv (TV j fi+my (s.bJ.take i) (s.cQ.take i) fi)) (ei.ai (eH av)) ?_;refine go ?_;refine ld (iv a) (ay.ai eb Yt) ?_;refine go ?_;refine idx fi Y av ?_;refine gv (λ_=>True) Yt ?_;refine st ei (by unfold cJ;rw[asz,dm];omega) U λz3 bt ff _=>?_;refine go ?_;have bt:aP z3 b8 3 ((cJ (cn n2 λf=>TV j f+my (s.bJ.take i) (s.cQ.take i) f)).set (0+fi*1) (iv (TV j fi+my (s.bJ.take i) (s.cQ.take i) fi+a))):=bt;rw[show 0+fi*1=fi from Y,ij,iZ] at bt;refine next (i+1) ⟨Yn,Yt⟩ ⟨Y,(kz.ag ay λ_ _ _=>Yt).ag ff λb _ h=>h,gD bt ?_⟩ Y;funext f;rw[htk f];by_cases e:f=fi
    .rw[asp e,asp Y,e];omega
    .rw[aso e,aso Y,atJ]
   have gq:i=k2:=by have:¬((i:Nat):Int)<k2:=dx;omega
   rw[gq,asx Y,asx Y] at Bz;refine go ?_;refine next (j+1) ⟨Yn,Yt⟩ ⟨Y,fe.trans kz,gD Bz ?_⟩ Y;funext f;rw[bk];show aV _+_=aV _;rw[asD,hs,asK,pC];congr 1;show _=aV [my s.bJ s.cQ f];rw[bK,nF,atJ]
 have gp:j=ns:=by have:¬((j:Nat):Int)<ns:=hge;omega
 have eT:∀v∈Ea x,jt v:=λv hv=>by unfold Ea cn at hv;obtain⟨f,-,rfl⟩:=asS.1 hv;have h1:=P.asked fp f;have h2:=P.bX fp f;have h3:=P.got few f;unfold jt;omega
 have sL:bS cO (λ_=>True) w7 Al nl (Ea x):=ol.ints (D:=λ_=>True) eT Y λ_ _=>Yt;have sL:=sL.ae J;have sA:=sA.ae J;have sG:=sG.ae J;have sQ:=sQ.ae J;have sT:=sT.ae J;have fh:=fp.h;have F:=P.F;refine aM (λk:Nat=>[(161,iv (k:Int))]) (λk z=>k<=n2/\u=z) (λk _=>n2-k) 0 ⟨U,Yt⟩ ⟨atc _,U⟩ U ?_;rintro Gk k z ⟨hk,rfl⟩;refine cD (λhlt=>?_) λ_=>?_;rotate_left
 .exact aQ (.bool true) U ⟨U,be⟩
 have hlt:k<n2:=by have:((k:Nat):Int)<n2:=hlt;omega
 obtain⟨tb,eS,kl,row,hC,df,-,-,fW,At,nt,ct,rfl,bw,-⟩:=sT.au (show k<q6 from Y);have aa:row=(List.range x.d.aG.toNat).map λh:Nat=>cj (ia x).bX k h:=by have h:(rb x.d.aR.length x.d.aG.toNat λf h=>cj (ia x).bX f h)[k]? =some row:=df;unfold rb at h;rw[as6,atU Y] at h;injection h with h;exact h.symm
 have j1:=bw.an;have hrl:row.length<=24:=by rw[aa,asz,as3];omega
 have dp:∀v∈row,0<=v/\v<=1073741824:=λv hv=>by rw[aa] at hv;obtain⟨h,-,rfl⟩:=asS.1 hv;exact⟨jT (eF F.JX) k h,F.cv.le k h⟩
 have dd:aV row=TV ns k:=by rw[bk,aa];show _=aV ((SS.take ns).map _);rw[asx Y,bo];exact(Pp P.I).symm
 have aq:bL (iE x (ia x).bX) k=aV row:=by rw[aa];exact Tx.amJ Y
 rw[hC] at B3u;refine bC ?_;refine bC ?_;refine ld (aB (some (ad tb eS)) q6 r6) (B3u.ai U) ?_;refine idx k U Y ?_;refine ld (aB At nt ct) (fW 0 _ U) ?_;refine an ?_;refine HB (λ(h:Nat) (acc:Int)=>[(171,iv (h:Int)),(17,iv acc)]) (λh acc z=>h<=nt/\acc=aV (row.take h)/\u=z) (λh _ _=>nt-h) 0 0 ⟨U,U,Yt⟩ ⟨atc _,U,U⟩ U ?_;rintro Gl h acc z ⟨hh,V,rfl⟩;have hab:=jl (l:=row.take h) λv hv=>dp v (asW hv);rw[<-V,asF] at hab;refine cD (λhlt2=>?_) λhge2=>?_
 .have hlt2:h<nt:=by have:((h:Nat):Int)<nt:=hlt2;omega
  obtain⟨vb,vo,vcs,v,rfl,hv,-,-,fU,rfl,-⟩:=bw.au hlt2;have lA:=dp v (asq hv);refine idx h U hlt2 ?_;refine ld (iv v) (fU 0 _ U) ?_;refine eD (n:=acc+v) Y ?_;refine eD (n:=(h:Int)+1) Y ?_;refine rr (h+1) (acc+v) ⟨Yn,U,Yt⟩ ⟨Y,?_,U⟩ Y;rw[asD,hv,pC,<-V];congr 1;show v=aV [v];rw[bK,nF,atJ]
 have gr:h=nt:=by have:¬((h:Nat):Int)<nt:=hge2;omega
 rw[gr,asx Y] at V;obtain⟨ab,ao,hZ,a,hQ,ha,-,-,hac,rfl,-⟩:=sA.au (show k<na from Y);obtain⟨gb,go,lI,g,hP,hg,-,-,gF,rfl,-⟩:=sG.au (show k<ng from Y);obtain⟨qb,qo,kG,q,hM,hq,-,-,hqc,rfl,-⟩:=sQ.au (show k<nq from Y);obtain⟨lb,lo,lcs,l,hN,gm,-,-,hlc,rfl,-⟩:=sL.au (show k<nl from Y);have ba:=P.asked fp k;have bg:=P.bX fp k;have bq:=P.got few k;have ef:bL (GtV x) k=q:=cY hq;have el:l=max 0 (bL (eZ x.d.aR.length (ia x).gK) k-bL (iE x (ia x).bX) k-bL (GtV x) k):=by have h1:bL (Ea x) k=l:=cY gm;rw[<-h1];unfold Ea;exact cY (lX Y)
 rw[cY ha,ef,aq] at el;rw[cY ha] at ba;rw[aq] at bg;rw[ef] at bq;have eg:g=aV row:=(cY hg).symm.trans aq;rw[hQ,hP,hM] at B3u;refine uo mx Z ?_;refine idx k U hlt ?_;refine ld (iv (TV ns k)) (Bu.ai (by rw[gp];exact eH hlt)) ?_;refine cN (λh=>absurd (V.trans dd) h) λ_=>?_;refine bC ?_;refine ld (aB (some (ad gb go)) ng cg) (B3u.ai U) ?_;refine idx k U Y ?_;refine ld (iv g) (gF 0 _ U) ?_;refine cN (λh=>absurd (V.trans eg.symm) h) λ_=>?_;refine ao4 ?_;rw[hN];refine Ux ?_;refine eD (n:=acc+q+l) Y ?_;refine cD (λh=>absurd (show a>acc+q+l from h) Y) λ_=>?_;refine Ux ?_;refine cD (λbE=>?_) λ_=>?_
 .have bE:l>0:=bE;refine ao4 ?_;refine Ux ?_;refine eD (n:=acc+q+l) Y ?_;refine cN (λh=>absurd Y h) λ_=>?_;refine eD (n:=(k:Int)+1) Y ?_;exact adz
 .refine eD (n:=(k:Int)+1) Y ?_;exact adz
end
end
end
section
variable{t:TypeId}
section
open Go.ChangeShapes Go.WideShapes
section
variable {H:Type} {enc:TypeId×Value->H} {P:Program}
def ap5(P:Program)(ts:List TypeId):Bool:=ts.all λt=>P.readableRec t&&decide (t<P.types.size)
theorem apX(M:laidOutB P=true){W O:World}{sp:Nat->Bool}:∀{J:List TypeId} {vs:aW} {ds:List (DataW H)} {ps:List MemPlace},ap5 P J=true->DataW.TrodAll enc P W 0 (λ_=>true) true J vs ds ps->(∀p∈ps,W.sameAt O p)->(∀p∈ps,sp p.block=true)->DataW.TrodAll enc P O 0 sp true J vs ds ps
 |[],_,_,_,_,h,_,_=>by
  obtain⟨rfl,rfl,rfl⟩:=trodAll_nil h
  exact trodAll_mk0
 |t::J,_,_,_,A,h,hs,z=>by
  obtain⟨v,vs,d,ds,p,q,rfl,rfl,rfl,h1,V⟩:=trodAll_cons h
  unfold ap5 at A
  rw[atv,asv,asv,asy] at A
  exact⟨p,q,Go.WideElems.Trod_stays M A.1.1 A.1.2 h1 (λx u=>hs x (atO _ u)) λx u=>z x (atO _ u),
   apX M A.2 V (λx u=>hs x (atV _ u)) λx u=>z x (atV _ u),rfl⟩
theorem aqK{f:Func}{s:ChangeSpec}{apart fresh handsOn again:Bool}{W O:World}{args:Array Value}{tb:TypeId}{ds gs:List (DataW H)}{before:List MemPlace}(hl:laidOutB P=true)(hc:ap5 P f.params.toList=true)(hr:f.resultTypes=#[tb])(hb:P.underlying tb=some .bool)(hv:s.vars=[])(hs:(s.fn H ds).results=[.lit (.bool true)]/\(s.fn H ds).args=ds/\(s.fn H ds).vars=[])(hW:DataW.Whole enc P f.params.toList s.vars apart W args.toList ds gs before)(Z:Below W.heap.size W O):s.post enc P f apart fresh handsOn again W args (.bool true) O:=by
 have A:∀p∈before,p.block<W.heap.size:=λp hp=>hW.lt p hp;have a6:=hW;obtain⟨p,q,hA,hV,rfl,hz,hn⟩:=hW;rw[hv] at hV;obtain⟨rfl,rfl⟩:=trodVars_none hV;simp only[asT] at A hz hn;have M:∀x∈p,W.sameAt O x:=λx u=>Z.same (A x u);have z:∀sp:Nat->Bool,(∀x∈p,sp x.block=true)->DataW.TrodAll enc P O 0 sp true f.params.toList args.toList ds p:=λsp h=>apX hl hc hA M h;have J:∀(b:Nat) (sp:Nat->Bool) (hd:Bool),DataW.TrodAll enc P O b sp hd f.resultTypes.toList ((Value.bool true).resultList f.resultTypes.size) [.lit (.bool true)] []:=λb sp hd=>by rw[hr];exact trodAll_mk1 (shut_bool hb _)
 have a1:∀(j:Nat) (t:TypeId) (r:Value),f.resultTypes[j]? =some t->((Value.bool true).resultList f.resultTypes.size)[j]? =some r->Value.okWide P O .any 0 t r:=by
  intro j t r h1 Y;rw[hr] at h1 Y;match j,h1,Y with
  |0,h1,Y=>
   simp[Value.resultList] at h1 Y;subst h1;subst Y;exact okWide_bool_mk hb _
  |j+1,h1,_=>simp at h1
 refine⟨ds,[],p++[],[],p,[],a6,?_,?_,?_,?_,λ_=>?_⟩
 .rw[asT,hs.1];exact J _ _ _
 .rw[asT,hs.2.1];exact z _ λx u=>by simpa using A x u
 .rw[asT,hs.2.2,hv];rfl
 .refine World.keptBut_mono (λx u=>⟨u,?_⟩) (Z.frame (·∈p++[]));right;simpa using u
 .have X:=trodAll_append (z (λ_=>true) λ_ _=>rfl) (J 0 (λ_=>true) true);refine⟨a1,[.lit (.bool true)]++ds,[],p++[],⟨p,[],X,by rw[hv];rfl,rfl,?_,?_⟩,?_⟩
  .intro b off hp;have V:MemPlace.cell b off∈p:=by simpa using hp
   rw[Z.frozen (A _ V)];exact hz b off V
  .exact Yg
  .intro x u _;exact u
end
end
section
open Go.ChangeShapes Go.WideShapes Go.ChangeAt
theorem own:ownKnob Tryz.prog.godebug=none:=Z
theorem laidOut:laidOutB prog=true:=Z
instance nz8:NeZero 8:=⟨by decide⟩
instance ax8:NeZero 16:=⟨by decide⟩
instance ax9:NeZero 24:=⟨by decide⟩
instance aya:NeZero 32:=⟨by decide⟩
instance ayb:NeZero 40:=⟨by decide⟩
instance ayc:NeZero 48:=⟨by decide⟩
instance ayd:NeZero 56:=⟨by decide⟩
instance aye:NeZero 88:=⟨by decide⟩
instance axK:NeZero 104:=⟨by decide⟩
section
variable {P:Program} {α β:Type} {a:Ty α} {b:Ty β}
theorem ado{α:Type}(P:Program)(t:TypeId)(a:Ty α)[h:Rd P t a](n:Nat):RdN P n t a:=h.h n
def aw3:Ty ByteArray:=JS 1 (λs=>[.string s]) λ_=>rfl
theorem ar5(h:P.underlying t=some .string):Rd P t aw3:=⟨λn=>⟨λ{H enc W cs x} u _=>by
 obtain⟨s,hs,_⟩:=DataW.trod_string h u;exact⟨s,hs⟩⟩⟩
theorem Rd.of(f:α->β)(h:Rd P t a)(A:∀W cs y,a.uF amE W cs y->b.uF amE W cs (f y)):Rd P t b:=⟨λn=>⟨λ{H enc W cs x} z hw=>by
 obtain⟨y,u⟩:=(h.h n).h z hw;exact⟨f y,A W cs y u⟩⟩⟩
theorem arJ{e:TypeId}(hu:P.underlying t=some (.array 2 e))(X:P.cellsOf t=a.sz+a.sz)(he:P.cellsOf e=a.sz)(O:Rd P e a):Rd P t (pg a a):=⟨λn=>⟨λ{H enc W cs x} M hw=>by
 obtain⟨xs,m,rfl,rfl,V,J,hi⟩:=DataW.trod_array hu M;dsimp only at hw;rw[DataW.weights,hu] at hw;dsimp only at hw;have el:∀i,i<2->∃y,a.uF amE W ((cs.drop (i*P.cellsOf e)).take (P.cellsOf e)) y:=λi Y=>by
  have h1:=hi i Y;have u:i<xs.length:=by omega
  rw[asw u] at h1;exact(O.h m).h h1 (ani (List.mem_map_of_mem (au0 u)) hw)
 obtain⟨A,h0⟩:=el 0 (by omega);obtain⟨z,h1⟩:=el 1 (by omega);rw[he] at h0 h1;rw[X] at V;refine⟨(A,z),_,_,?_,h0,h1⟩;rw[avW,at3,Nat.one_mul,asx (l:=cs.drop a.sz) (by rw[atM];omega),atk]⟩⟩
end
theorem ap9:Rd prog 57 (pg cO cO):=Rd.struct Tryz.underlying57 (by kernel_rfl) λn=>.cons (ado prog 3 cO n) rfl (.one (ado prog 3 cO n) rfl)
theorem aqa:Rd prog 96 (pg cO cO):=Rd.struct Tryz.underlying96 (by kernel_rfl) λn=>.cons (ado prog 3 cO n) rfl (.one (ado prog 3 cO n) rfl)
theorem arL:Rd prog 23 (pg cO cO):=Rd.struct Tryz.underlying23 (by kernel_rfl) λn=>.cons (ado prog 3 cO n) rfl (.one (ado prog 3 cO n) rfl)
theorem aqc:Rd prog 97 (pg (pg cO cO) (pg cO cO)):=arJ (e:=96) Tryz.underlying97 (by kernel_rfl) (by kernel_rfl) aqa
theorem anx:Rd prog 9 aw3:=ar5 Tryz.underlying9
theorem aqM:Rd prog 99 lH:=by
 refine Rd.of (λy:ByteArray×Int×Int×Int×Int×Int×(Int×Int)×(Int×Int)×(Int×Int)=>(⟨y.1,y.2.1,y.2.2.1,y.2.2.2.1,y.2.2.2.2.1,y.2.2.2.2.2.1,⟨y.2.2.2.2.2.2.1.1,y.2.2.2.2.2.2.1.2⟩,⟨y.2.2.2.2.2.2.2.1.1,y.2.2.2.2.2.2.2.1.2⟩,⟨y.2.2.2.2.2.2.2.2.1,y.2.2.2.2.2.2.2.2.2⟩⟩:Reach)) (Rd.struct Tryz.underlying99 Z λn=>.cons (anx.h n) U (.cons (ado prog 3 cO n) U (.cons (ado prog 3 cO n) U (.cons (ado prog 3 cO n) U (.cons (ado prog 3 cO n) U (.cons (ado prog 3 cO n) U (.cons (ap9.h n) U (.one (aqc.h n) U)))))))) ?_;rintro W cs ⟨s,u,d,c,k,i,⟨A,z⟩,⟨f1,f2⟩,⟨g1,g2⟩⟩ ⟨_,_,rfl,rfl,_,_,rfl,⟨rfl,-⟩,_,_,rfl,⟨rfl,-⟩,_,_,rfl,⟨rfl,-⟩,_,_,rfl,⟨rfl,-⟩,_,_,rfl,⟨rfl,-⟩,_,_,rfl,⟨_,_,rfl,⟨rfl,-⟩,⟨rfl,-⟩⟩,_,_,rfl,⟨_,_,rfl,⟨rfl,-⟩,⟨rfl,-⟩⟩,⟨_,_,rfl,⟨rfl,-⟩,⟨rfl,-⟩⟩⟩;rfl
theorem arM:Rd prog 102 yQ:=by
 refine Rd.of (λy:ByteArray×Int×Int×Int=>(⟨y.1,y.2.1,y.2.2.1,y.2.2.2⟩:zk)) (Rd.struct Tryz.underlying102 Z λn=>.cons (anx.h n) U (.cons (ado prog 3 cO n) U (.cons (ado prog 3 cO n) U (.one (ado prog 3 cO n) U)))) ?_;rintro W cs ⟨s,u,d,c⟩ ⟨_,_,rfl,rfl,_,_,rfl,⟨rfl,-⟩,_,_,rfl,⟨rfl,-⟩,⟨rfl,-⟩⟩;rfl
theorem arN:Rd prog 365 Xs:=by
 refine Rd.of (λy:ByteArray×Int=>(⟨y.1,y.2⟩:NS)) (Rd.struct Tryz.underlying365 Z λn=>.cons (anx.h n) U (.one (ado prog 3 cO n) U)) ?_;rintro W cs ⟨s,u⟩ ⟨_,_,rfl,rfl,⟨rfl,-⟩⟩;rfl
theorem arO:Rd prog 126 Qs:=by
 refine Rd.of (λy:ByteArray×Int×Int×Int=>(⟨y.1,y.2.1,y.2.2.1,y.2.2.2⟩:BD)) (Rd.struct Tryz.underlying126 Z λn=>.cons (anx.h n) U (.cons (ado prog 3 cO n) U (.cons (ado prog 3 cO n) U (.one (ado prog 3 cO n) U)))) ?_;rintro W cs ⟨s,u,d,c⟩ ⟨_,_,rfl,rfl,_,_,rfl,⟨rfl,-⟩,_,_,rfl,⟨rfl,-⟩,⟨rfl,-⟩⟩;rfl
theorem aqN:Rd prog 171 xR:=by
 refine Rd.of (λy:ByteArray×Int×Int×Int×Int×Int×Int×Int×Int×Int=>(⟨y.1,y.2.1,y.2.2.1,y.2.2.2.1,y.2.2.2.2.1,y.2.2.2.2.2.1,y.2.2.2.2.2.2.1,y.2.2.2.2.2.2.2.1,y.2.2.2.2.2.2.2.2.1,y.2.2.2.2.2.2.2.2.2⟩:gW)) (Rd.struct Tryz.underlying171 Z λn=>.cons (anx.h n) U (.cons (ado prog 3 cO n) U (.cons (ado prog 3 cO n) U (.cons (ado prog 3 cO n) U (.cons (ado prog 3 cO n) U (.cons (ado prog 3 cO n) U (.cons (ado prog 3 cO n) U (.cons (ado prog 3 cO n) U (.cons (ado prog 3 cO n) U (.one (ado prog 3 cO n) U)))))))))) ?_;rintro W cs ⟨s,a,b,c,d,e,f,g,h,i⟩ ⟨_,_,rfl,rfl,_,_,rfl,⟨rfl,-⟩,_,_,rfl,⟨rfl,-⟩,_,_,rfl,⟨rfl,-⟩,_,_,rfl,⟨rfl,-⟩,_,_,rfl,⟨rfl,-⟩,_,_,rfl,⟨rfl,-⟩,_,_,rfl,⟨rfl,-⟩,_,_,rfl,⟨rfl,-⟩,⟨rfl,-⟩⟩;rfl
theorem arP:Rd prog 548 Xt:=Rd.map (g:=λy:Int×Int×Int×aX=>(⟨y.1,y.2.1,y.2.2.1,y.2.2.2⟩:amH)) (Rd.struct Tryz.underlying548 (by kernel_rfl) λn=>.cons (ado prog 3 cO n) rfl (.cons (ado prog 3 cO n) rfl (.cons (ado prog 3 cO n) rfl (.one (ado prog 37 (Xg cO) n) rfl)))) λ_=>rfl
instance:Rd prog 99 lH:=aqM
instance:Rd prog 102 yQ:=arM
instance:Rd prog 365 Xs:=arN
instance:Rd prog 171 xR:=aqN
instance:Rd prog 126 Qs:=arO
instance:Rd prog 548 Xt:=arP
theorem aqs:Rd prog 24 (Xg lH):=inferInstance
theorem aqQ:Rd prog 25 (Xg yQ):=inferInstance
theorem aqR:Rd prog 26 (Xg Xs):=inferInstance
theorem aqu:Rd prog 27 (Xg xR):=inferInstance
theorem aqw:Rd prog 28 (Xg Qs):=inferInstance
theorem aqV:Rd prog 29 (Xg Xt):=inferInstance
theorem arQ:Rd prog 31 amI:=by
 refine Rd.of (λy:ByteArray×Int×(Int×Int)×List Reach×List zk×List NS×List gW×List BD×List amH=>(⟨y.1,y.2.1,y.2.2.1.1,y.2.2.1.2,y.2.2.2.1,y.2.2.2.2.1,y.2.2.2.2.2.1,y.2.2.2.2.2.2.1,y.2.2.2.2.2.2.2.1,y.2.2.2.2.2.2.2.2⟩:aU)) (Rd.struct Tryz.underlying31 Z λn=>.cons (anx.h n) U (.cons (ado prog 3 cO n) U (.cons (arL.h n) U (.cons (aqs.h n) U (.cons (aqQ.h n) U (.cons (aqR.h n) U (.cons (aqu.h n) U (.cons (aqw.h n) U (.one (aqV.h n) U))))))))) ?_;rintro W cs ⟨s,h,⟨c,t⟩,l1,l2,l3,l4,l5,l6⟩ ⟨_,_,rfl,rfl,_,_,rfl,⟨rfl,-⟩,_,_,rfl,⟨_,_,rfl,⟨rfl,-⟩,⟨rfl,-⟩⟩,_,_,rfl,⟨A1,n1,c1,rfl,h1,-⟩,_,_,rfl,⟨A2,J,c2,rfl,Y,-⟩,_,_,rfl,⟨A3,A,c3,rfl,X,-⟩,_,_,rfl,⟨A4,z,c4,rfl,V,-⟩,_,_,rfl,⟨A5,u,c5,rfl,O,-⟩,A6,n6,c6,rfl,M,-⟩;exact iG.fI ⟨A1,n1,c1,A2,J,c2,A3,A,c3,A4,z,c4,A5,u,c5,A6,n6,c6,U,h1,Y,X,V,O,M⟩
instance asg:NeZero 72:=⟨by decide⟩
theorem kU(n:Nat):RdN prog n 3 cO:=ado prog 3 cO n
theorem WV:Rd prog 445 DR:=by
 refine Rd.of (λy:Int×Int×Int=>(⟨y.1,⟨y.2.1,y.2.2⟩⟩:vw)) (Rd.struct Tryz.underlying445 Z λn=>.cons (kU n) U (.one (aqa.h n) U)) ?_;rintro W cs ⟨a,b,c⟩ ⟨_,_,rfl,⟨rfl,-⟩,_,_,rfl,⟨rfl,-⟩,⟨rfl,-⟩⟩;rfl
theorem WW:Rd prog 297 XI:=by
 refine Rd.of (λy:Int×Int×Int×Int=>(⟨y.1,y.2.1,y.2.2.1,y.2.2.2⟩:r9)) (Rd.struct Tryz.underlying297 Z λn=>.cons (kU n) U (.cons (kU n) U (.cons (kU n) U (.one (kU n) U)))) ?_;exact Ym
theorem TG:Rd prog 173 GF:=by
 refine Rd.of (λy:Int×Int×Int×Int=>(⟨y.1,y.2.1,y.2.2.1,y.2.2.2⟩:lK)) (Rd.struct Tryz.underlying173 Z λn=>.cons (kU n) U (.cons (kU n) U (.cons (kU n) U (.one (kU n) U)))) ?_;exact Ym
theorem acY:Rd prog 62 wI:=by
 refine Rd.of (λy:Int×Int×Int×Int×Int×Int×Int×Int×Int=>(⟨y.1,y.2.1,y.2.2.1,y.2.2.2.1,y.2.2.2.2.1,y.2.2.2.2.2.1,y.2.2.2.2.2.2.1,y.2.2.2.2.2.2.2.1,y.2.2.2.2.2.2.2.2⟩:jd)) (Rd.struct Tryz.underlying62 Z λn=>.cons (kU n) U (.cons (kU n) U (.cons (kU n) U (.cons (kU n) U (.cons (kU n) U (.cons (kU n) U (.cons (kU n) U (.cons (kU n) U (.one (kU n) U))))))))) ?_;rintro W cs ⟨a,b,c,d,e,f,g,h,i⟩ ⟨_,_,rfl,⟨rfl,-⟩,_,_,rfl,⟨rfl,-⟩,_,_,rfl,⟨rfl,-⟩,_,_,rfl,⟨rfl,-⟩,_,_,rfl,⟨rfl,-⟩,_,_,rfl,⟨rfl,-⟩,_,_,rfl,⟨rfl,-⟩,_,_,rfl,⟨rfl,-⟩,⟨rfl,-⟩⟩;rfl
theorem acZ:Rd prog 57 GD:=by
 apply Rd.of (λy:Int×Int=>(⟨y.1,y.2⟩:Rg)) ap9;rintro W cs ⟨a,b⟩ ⟨_,_,rfl,⟨rfl,-⟩,⟨rfl,-⟩⟩;rfl
instance:Rd prog 445 DR:=WV
instance:Rd prog 297 XI:=WW
instance:Rd prog 173 GF:=TG
instance:Rd prog 62 wI:=acY
instance:Rd prog 57 GD:=acZ
theorem WX:Rd prog 90 kF:=Rd.map (g:=λy:Int×List Rg×aX=>(⟨y.1,y.2.1,y.2.2⟩:eV)) (Rd.struct Tryz.underlying90 (by kernel_rfl) λn=>.cons (kU n) rfl (.cons (ado prog 88 (Xg GD) n) rfl (.one (ado prog 37 (Xg cO) n) rfl))) λ_=>rfl
theorem WY:Rd prog 87 oI:=Rd.map (g:=λy:Int×Int×Int×Int×Int×List vw×Int×Int×Int=>(⟨y.1,y.2.1,y.2.2.1,y.2.2.2.1,y.2.2.2.2.1,y.2.2.2.2.2.1,y.2.2.2.2.2.2.1,y.2.2.2.2.2.2.2.1,y.2.2.2.2.2.2.2.2⟩:dz)) (Rd.struct Tryz.underlying87 (by kernel_rfl) λn=>.cons (kU n) rfl (.cons (kU n) rfl (.cons (kU n) rfl (.cons (kU n) rfl (.cons (kU n) rfl (.cons (ado prog 85 (Xg DR) n) rfl (.cons (kU n) rfl (.cons (kU n) rfl (.one (kU n) rfl))))))))) λ_=>rfl
instance:Rd prog 90 kF:=WX
instance:Rd prog 87 oI:=WY
theorem amO:Rd prog 32 (Xg oI):=inferInstance
theorem amU:Rd prog 33 (Xg XI):=inferInstance
theorem anP:Rd prog 34 (Xg wI):=inferInstance
theorem anf:Rd prog 35 (Xg kF):=inferInstance
theorem ajJ:Rd prog 36 (Xg GF):=inferInstance
theorem anQ:Rd prog 37 (Xg cO):=inferInstance
theorem aoP:Rd prog 38 (Xg gC):=inferInstance
theorem ajG:Rd prog 40 (pg (Xg cO) (pg (Xg gC) (Xg gC))):=Rd.struct Tryz.underlying40 (by kernel_rfl) λn=>.cons (anQ.h n) rfl (.cons (aoP.h n) rfl (.one (aoP.h n) rfl))
def anR:Ty cM where
 sz:=19
 uF D w cs x:=iu D w cs x
 an h:=by
  obtain⟨csd,G1,m1,e1,G2,m2,e2,G3,m3,e3,G4,m4,e4,G5,m5,e5,G6,m6,e6,G7,m7,e7,G8,m8,e8,rfl,h0,-⟩:=h.ex
  rw[asu,amI.an h0]
  rfl
 di hk h:=h.di hk
 ar hk h:=h.ar hk
theorem Pu:Rd prog 42 anR:=by
 refine Rd.of (λy:aU×Int×List dz×List r9×List jd×List eV×List lK×aX×List (aX)×List (aX)=>(⟨y.1,y.2.1,y.2.2.1,y.2.2.2.1,y.2.2.2.2.1,y.2.2.2.2.2.1,y.2.2.2.2.2.2.1,y.2.2.2.2.2.2.2.1,y.2.2.2.2.2.2.2.2.1,y.2.2.2.2.2.2.2.2.2⟩:cM)) (Rd.struct Tryz.underlying42 Z λn=>.cons (arQ.h n) U (.cons (kU n) U (.cons (amO.h n) U (.cons (amU.h n) U (.cons (anP.h n) U (.cons (anf.h n) U (.cons (ajJ.h n) U (.one (ajG.h n) U)))))))) ?_;rintro W cs ⟨d,e,l1,l2,l3,l4,l5,l6,l7,l8⟩ ⟨u,_,rfl,h0,_,_,rfl,⟨rfl,-⟩,_,_,rfl,⟨A1,n1,c1,rfl,h1,-⟩,_,_,rfl,⟨A2,M,c2,rfl,h2,-⟩,_,_,rfl,⟨A3,J,c3,rfl,h3,g3⟩,_,_,rfl,⟨A4,A,c4,rfl,h4,g4⟩,_,_,rfl,⟨A5,z,c5,rfl,Y,-⟩,_,_,rfl,⟨A6,n6,c6,rfl,X,g6⟩,_,_,rfl,⟨A7,n7,c7,rfl,V,-⟩,A8,n8,c8,rfl,O,-⟩;exact iu.fI ⟨u,A1,n1,c1,A2,M,c2,A3,J,c3,A4,A,c4,A5,z,c5,A6,n6,c6,A7,n7,c7,A8,n8,c8,U,h0,h1,h2,h3,h4,Y,X,V,O,g3,g4,g6⟩
end
end
end Go.Proofs.YtakcjkbnfegidaaGreat
namespace Go.Proofs.YtakcjkbnfegidaaGreat.topOwed
open Go Go.Proofs.YtakcjkbnfegidaaGreat Go.RowKit Go.ChangeShapes Go.WideShapes Go.ChangeAt Go.Proofs.Tryz
theorem jQ{a b:Bool}(h:a=true)(k:b=true):(a&&b)=true:=by rw[h,k];rfl
theorem anS:(Rows.topOwedRow.wf (OpenSpec.ofChange Rows.topOwedSpec))=true:=by kernel_rfl
theorem anT:(laidOutB prog)=true:=by kernel_rfl
theorem anU:(mapsRowed prog)=true:=by kernel_rfl
theorem anV:(Tryz.f3.params.all (Tryz.prog.readableRec ·))=true:=by kernel_rfl
theorem anW:(namedTie prog Rows.topOwedRow.named Rows.topOwedSpec.vars)=true:=by kernel_rfl
theorem anX:((Rows.topOwedRow.stops == []))=true:=by kernel_rfl
theorem anY:((Tryz.prog.stops == []))=true:=by kernel_rfl
theorem anZ:((Rows.topOwedRow.knobs == []))=true:=by kernel_rfl
theorem an0:((Tryz.prog.stopKnobs == []))=true:=by kernel_rfl
theorem an1:((Rows.topOwedRow.inPlace == Tryz.prog.inPlace 3))=true:=by kernel_rfl
theorem ac0:((Rows.topOwedRow.unfollowed == Tryz.prog.unfollowed 3))=true:=by kernel_rfl
theorem ac1:((Rows.topOwedRow.recurses == Tryz.prog.recurses 3))=true:=by kernel_rfl
theorem ac2:((Rows.topOwedRow.named == Tryz.prog.varsNamed 3))=true:=by kernel_rfl
theorem ac3:((Rows.topOwedRow.maps == (Tryz.f3.params.toList++Rows.topOwedSpec.plain.varTypes prog).any (Tryz.prog.mapsRec ·)))=true:=by kernel_rfl
theorem ac4:((Rows.topOwedRow.ifaces == (Tryz.f3.params.toList++Rows.topOwedSpec.plain.varTypes prog).any (Tryz.prog.ifacesRec ·)))=true:=by kernel_rfl
theorem ac5:((Rows.topOwedRow.mapsOut == Tryz.prog.mapsAmong Tryz.f3.resultTypes.toList))=true:=by kernel_rfl
theorem ac6:((Rows.topOwedRow.loops == (Tryz.f3.params.toList++Rows.topOwedSpec.plain.varTypes prog).any (Tryz.prog.loopsFrom ·)))=true:=by kernel_rfl
theorem ac7:((Rows.topOwedRow.wideKeys == (Tryz.f3.params.toList++Rows.topOwedSpec.plain.varTypes prog++Tryz.f3.resultTypes.toList).any (Tryz.prog.wideKeysFrom ·)))=true:=by kernel_rfl
theorem ac8:(Rows.topOwedSpec.vars.all (Tryz.prog.varReadable ·))=true:=by kernel_rfl
theorem ac9:(Tryz.f3.resultTypes.all λt=>Tryz.prog.readableRec t&&decide (t<Tryz.prog.types.size))=true:=by kernel_rfl
theorem ada:((Rows.topOwedRow.ifacesOut == Tryz.f3.resultTypes.toList.any (Tryz.prog.ifacesRec ·)))=true:=by kernel_rfl
theorem adb:((Rows.topOwedRow.loopsOut == Tryz.f3.resultTypes.toList.any (Tryz.prog.loopsFrom ·)))=true:=by kernel_rfl
theorem ade:((Rows.topOwedRow.plainKeys == Tryz.prog.plainKeys))=true:=by kernel_rfl
theorem adf:(Rows.topOwedRow.shortTexts.isNone)=true:=by kernel_rfl
theorem adg:(Tryz.prog.stopsHeard)=true:=by kernel_rfl
theorem adh:(Tryz.prog.mayEnter)=true:=by kernel_rfl
theorem adi:((Rows.topOwedRow.lifted == Tryz.prog.liftsFinal))=true:=by kernel_rfl
theorem adj:((Tryz.prog.make == some Rows.topOwedRow.make))=true:=by kernel_rfl
theorem adk:((Rows.topOwedRow.kinds == (if Rows.topOwedRow.domain.isEmpty then [] else Tryz.f3.params.toList.map λt=>match Tryz.prog.underlying t with|some (.int k)=>some k|_=>none)))=true:=by kernel_rfl
theorem adl:((Rows.topOwedRow.pinned == Rows.topOwedRow.pinnedBy))=true:=by kernel_rfl
theorem adm:((Rows.topOwedRow.veiled == (Tryz.f3.params.toList++Rows.topOwedSpec.plain.varTypes prog++Tryz.f3.resultTypes.toList).any (Tryz.prog.veiledRec ·)))=true:=by kernel_rfl
theorem adn:(Rows.topOwedRow.veiledFits prog Tryz.f3.params.toList (Tryz.f3.params.toList++Rows.topOwedSpec.plain.varTypes prog++Tryz.f3.resultTypes.toList))=true:=by kernel_rfl
set_option maxRecDepth 100000 in
theorem jf:joinedFacts prog 3 Tryz.f3 Rows.topOwedSpec Rows.topOwedRow=true:=by
 unfold joinedFacts;exact(jQ (jQ (jQ (jQ (jQ (jQ (jQ (jQ (jQ (jQ (jQ (jQ (jQ (jQ (jQ (jQ (jQ (jQ (jQ (jQ (jQ (jQ (jQ (jQ (jQ (jQ (jQ (jQ (jQ (jQ (jQ anS anT) anU) anV) anW) anX) anY) anZ) an0) an1) ac0) ac1) ac2) ac3) ac4) ac5) ac6) ac7) ac8) ac9) ada) adb) ade) adf) adg) adh) adi) adj) adk) adl) adm) adn)
end Go.Proofs.YtakcjkbnfegidaaGreat.topOwed
