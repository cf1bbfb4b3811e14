/- Part. -/
import Derived.Test.YtakcjkbnfegidaaGreatPT2
set_option linter.all false
namespace Go.Proofs.YtakcjkbnfegidaaGreat
open Go Go.RowKit Tryz
variable{kd:IntKind}{a b i l o:Nat}{K:Value->Prop}{u w:World}{r:Loop}{ds:List Deferred}{D:Nat->Prop}{e j s t:TypeId}{cs:aW}{n x:Int}
section
open Classical
section
variable {P:Program}
theorem xO{key:TypeId}(hk:P.underlying key=some (.int kd))(b:Bool)(k:Int)(w:World):(Instr.checkKey b 10000 key (.int kd k)).run P w=.ok () w:=by
 rw[show(10000:Nat)=9999+1 from rfl];unfold Instr.checkKey;rw[asI,asX hk];rfl
theorem zh{key:TypeId}(hk:P.underlying key=some (.int kd)){k:Int}{L:List MapEntry}{r:Option (Nat×Value)}(h:Instr.findNow (.int kd) (.int kd k) L 0=some r)(w:World):(Instr.findKey key (.int kd k) L).run P w=.ok r w:=by
 unfold Instr.findKey;rw[asI,asX hk];simp only[asJ,h,atr]
end
end
section
variable {P:Program}
def dc(w:World)(l:Nat)(r:Loop):Prop:=w.heap[l]? =some (.loop r)
def abc:Fr->List (Nat×Value)->Fr
 |F,[]=>F
 |F,p::r=>abc (fH F p.1 p.2) r
theorem Bl:∀(l:List (Nat×Value)) (tmps:Array Value) (F:Fr),(∀t,tmps.getD t undef=F t)->(∀p∈l,p.1<tmps.size)->(l.foldl (λ(t:Array Value) (p:Nat×Value)=>t.setIfInBounds p.1 p.2) tmps).size=tmps.size/\∀t,(l.foldl (λ(t:Array Value) (p:Nat×Value)=>t.setIfInBounds p.1 p.2) tmps).getD t undef=abc F l t
 |[],tmps,F,h,_=>⟨rfl,h⟩
 |p::l,tmps,F,h,A=>by
  have h1:∀t,(tmps.setIfInBounds p.1 p.2).getD t undef=fH F p.1 p.2 t:=λt=>by
   show _=(bif Nat.beq t p.1 then p.2 else F t)
   cases u:Nat.beq t p.1 with
   |true=>obtain rfl:=atx u;simp[A p ass]
   |false=>
    have z:p.1≠t:=λe=>by rw[<-e,auw] at u;cases u
    rw[<-h t];simp[at9 z]
  obtain⟨O,M⟩:=Bl l (tmps.setIfInBounds p.1 p.2) (fH F p.1 p.2) h1 λq J=>by simpa using A q (ast _ J)
  exact⟨by rw[aul,O];simp,λt=>by rw[aul,M];rfl⟩
structure Bn (l:Nat) (K:VK) (e:Exit) (w:World):Prop where
 fI::
 fR:∃r,dc w l r/\match e with
  | .normal=>K (.bool true) (w.putObj l (.loop {r with state:=.ready,pending:=none}))
  | .ret=>K (.bool false) (w.putObj l (.loop {r with state:=.done,pending:=some .ret}))
  | .exit id=>K (.bool false) (w.putObj l (.loop {r with state:=.done,pending:=some (.exit id)}))
  |_=>False
theorem abd{K:VK}(r:Loop)(h:dc w l r)(k:K (.bool true) (w.putObj l (.loop {r with state:=.ready,pending:=none}))):Bn l K .normal w:=⟨r,h,k⟩
theorem abe{K:VK}(r:Loop)(h:dc w l r)(k:K (.bool false) (w.putObj l (.loop {r with state:=.done,pending:=some .ret}))):Bn l K .ret w:=⟨r,h,k⟩
def Bp(l:Nat)(K:VK):KK:=λe _ _ w=>Bn l K e w
structure abf (P:Program) (l:Nat) (r:Loop) (K:VK) (F:Fr) (ds:List Deferred) (w:World):Prop where
 fI::
 fR:dc w l r/\V P r.body (Bp l K) F ds (w.putObj l (.loop {r with state:=.busy}))
def amC(P:Program)(l:Nat)(r:Loop)(K:VK):KK:=λe F ds w=>match e with| .normal=>abf P l r K F ds w|_=>False
theorem JR{K:VK}{F:Fr}(h:dc w l r)(k:V P r.body (Bp l K) F ds (w.putObj l (.loop {r with state:=.busy}))):abf P l r K F ds w:=⟨h,k⟩
theorem dQ{l:Nat}{r:Loop}{g:Operand}{args:aW}{K:VK}{w:World}{F:Fr}(hl:dc w l r)(hr:r.state=.ready)(Z:args.length=r.params.toList.length)(hF:∀t,r.tmps.getD t undef=F t)(M:AU r.tmps.size (.rangeFunc g r.params r.assign r.body)=true)(h:V P r.assign (amC P l r K) (abc F (r.params.toList.zip args)) [] w):iQ P l args.toArray K w:=by
 rw[sR];intro w0 hw;subst hw;have af:w0.heap[l]? =some (.loop r):=hl;obtain⟨⟨Y,X⟩,a6⟩:((AU r.tmps.size r.assign&&AU r.tmps.size r.body)=true/\(eO r.assign&&eO r.body)=true)/\(r.params.toList.all λt=>Nat.blt t r.tmps.size)=true:=by have:=ft M;exact⟨ft this.1,this.2⟩
 obtain⟨W,O⟩:=ft Y;obtain⟨a8,a7⟩:=ft X;rw[run_yield af (by simpa using Z)];show RoundIn Fence.wide 0 P l r.fn _ r.assign r.body w0 _;have A:((r.params.zip args.toArray).foldl (λtmps (t,a)=>tmps.setIfInBounds t a) r.tmps)=(r.params.toList.zip args).foldl (λ(t:Array Value) (p:Nat×Value)=>t.setIfInBounds p.1 p.2) r.tmps:=by rw[<-Array.foldl_toList,Array.toList_zip]
 have aa:∀p∈r.params.toList.zip args,p.1<r.tmps.size:=λp hp=>by have:=asH.1 a6 p.1 (aww hp).1;simpa using this
 obtain⟨f1,f2⟩:=Bl (r.params.toList.zip args) r.tmps F hF aa;rw[A];refine roundIn_of_wpIn (F:=Fence.wide) Yt (at0 (eP (n:=r.tmps.size) r.assign W (amC P l r K) _ [] w0 (some l) _ (.inr a8) ⟨f1,f2,rfl⟩ h) λe a' w' hq=>?_);obtain⟨F',ak,hk⟩:=hq;cases e with
 |normal=>
  obtain⟨⟨ab,J⟩⟩:=hk;refine⟨_,run_beginRound ab hr,?_⟩;refine at0 (eP (n:=r.tmps.size) r.body O (Bp l K) F' _ (w'.putObj l (.loop {r with state:=.busy})) (some l) a' (.inr a7) ak J) λe a2 w2 a1=>?_;obtain⟨F2,_,⟨⟨r2,z,u⟩⟩⟩:=a1;cases e with
  |normal=>exact⟨_,_,run_endRound none z,_,rfl,u⟩
  |ret=>exact⟨_,_,run_endRound (some .ret) z,_,rfl,u⟩
  |exit id=>exact⟨_,_,run_endRound (some (.exit id)) z,_,rfl,u⟩
  |_=>exact u.elim
 |_=>exact hk.elim
def Kl(K:KK)(F:Fr)(ds:List Deferred)(pending:Option Code)(w:World):Prop:=match pending with
 |none=>K .normal F ds w
 |some .ret=>K .ret F ds w
 |some (.exit id)=>K (.exit id) F ds w
 |some _=>False
abbrev Xi(w:World):Deferred:={target:=.collected w.heap.size,args:=#[]}
abbrev Mc(w:World)(fn:FuncId)(tmps:Array Value)(ps:Array Tmp)(assign body:Code):Loop:={state:=.ready,pending:=none,fn,tmps,params:=ps,assign,body,defers:=w.heap.size}
theorem range{g:Operand}{ps:Array Tmp}{assign body:Code}{K:KK}{F:Fr}{ds:List Deferred}{w:World}{gf:FuncId}{lb:Array Value}[he:Enters P gf](hg:ev F g=.func (.func gf) #[] lb)(h:∀(fn:FuncId) (tmps:Array Value) (w1:World) (R:Loop),R=Mc w fn tmps ps assign body->(∀t,tmps.getD t undef=F t)->AU tmps.size (.rangeFunc g ps assign body)=true->ax w w1->w1.heap.size=w.heap.size+2->w1.heap[w.heap.size]? =some (.deferred (some []))->dc w1 (w.heap.size+1) R->aK P gf (#[.func (.yield (w.heap.size+1)) #[] #[]]++lb) w1 λ_ w2=>∃r,dc w2 (w.heap.size+1) r/\r.state≠.busy/\Kl K F (Xi w::ds) r.pending (w2.putObj (w.heap.size+1) (.loop {r with state:=.exhausted}))):FJ P (.rangeFunc g ps assign body) K F ds w:=by
 rw[xH]
 intro a w0 hw hF hd hwf
 subst hw;subst hd
 refine wpIn_rangeFunc (F:=Fw none) λfn hfn=>?_
 have hev:a.eval=ev F:=funext λx=>by
  cases x with
  |tmp t=>exact hF t
  |_=>rfl
 have hga:a.eval g=.func (.func gf) #[] lb:=by rw[hev];exact hg
 obtain⟨W1,hW1⟩:∃W1,W1=(w0.alloc (.deferred (some []))).alloc (.loop (Mc w0 fn a.tmps ps assign body)):=⟨_,rfl⟩
 have hent:=run_enterLoop_outer (P:=P) (w:=w0) fn a.tmps ps assign body
 rw[<-hW1] at hent
 refine⟨w0.heap.size+1,[{target:=.collected w0.heap.size,args:=#[]}],W1,{target:=.fn (.func gf) lb,args:=#[.func (.yield (w0.heap.size+1)) #[] #[]]},W1,gf,#[.func (.yield (w0.heap.size+1)) #[] #[]]++lb,W1,hent,?_,λ_ _=>Yt,?_,λhh=>(by cases hh),?_⟩
 .simp only[resolve,hga]
  simp[go_sem]
 .simp[invoke,go_sem,he.h]
 .have h1:=h fn a.tmps (z W1) _ rfl hF hwf (by rw[hW1];exact(aj.alloc _ (z w0) _).trans (aj.alloc _ _ _)) (by rw[hW1];simp) (by
   rw[hW1]
   show((w0.alloc (.deferred (some []))).alloc (.loop (Mc w0 fn a.tmps ps assign body))).heap[w0.heap.size]? =_
   rw[Below.heap_alloc _ _ _ (by simp)]
   exact avU w0 _) (by
   have:=avU (w0.alloc (.deferred (some []))) (.loop (Mc w0 fn a.tmps ps assign body))
   rw[World.size_alloc,<-hW1] at this
   exact this)
  apply(h1 _ rfl).mono
  rintro e w3 ⟨v,rfl,r,hl,hb,hE⟩
  refine⟨r.pending,_,run_endLoop hl hb,?_⟩
  cases hp:r.pending with
  |none=>rw[hp] at hE;exact⟨rfl,hE⟩
  |some c=>
   rw[hp] at hE
   cases c with
   |ret=>exact wpIn_ret ⟨rfl,hE⟩
   |exit id=>exact wpIn_exit ⟨rfl,hE⟩
   |_=>exact hE.elim
theorem oN{rs:List ResultVar}{F:Fr}{R:VK}{D:Nat}(u:w.heap[D]? =some (.deferred (some [])))(h:zf P F (w.putObj D (.deferred none)) rs [] λvs=>R (FM vs) (w.putObj D (.deferred none))):Be P rs F [{target:=.collected D,args:=#[]}] R w:=by
 rw[lV];refine⟨_,?_,h⟩;simp only[gU,u];rfl
theorem aj.putObj(w:World)(l:Nat)(o:Obj):aj (λb=>b≠l) w (w.putObj l o):=⟨rfl,rfl,rfl,by simp,λi _ u=>World.putObj_heap_other u⟩
theorem dc.ah(h:dc w l r)(k:aj D w u)(z:D l):dc u l r:=(k.aS l (asV.1 h).1 z).trans h
theorem dc.put(h:dc w l r)(u:Loop):dc (w.putObj l (.loop u)) l u:=World.putObj_heap_same (asV.1 h).1
theorem dc.lt(h:dc w l r):l<w.heap.size:=(asV.1 h).1
theorem tN{K:VK}{F:Fr}(h:dc w l r)(k:∀u,aj (λb=>b≠l) w u->u.heap.size=w.heap.size->dc u l {r with state:=.busy}->V P r.body (Bp l K) F ds u):abf P l r K F ds w:=JR h (k _ (aj.putObj _ _ _) (by simp) (h.put _))
theorem eQ{K:VK}(r:Loop)(h:dc w l r)(k:∀u,aj (λb=>b≠l) w u->dc u l {r with state:=.ready,pending:=none}->K (.bool true) u):Bn l K .normal w:=abd r h (k _ (aj.putObj _ _ _) (h.put _))
theorem vM{K:VK}(r:Loop)(h:dc w l r)(k:∀u,aj (λb=>b≠l) w u->dc u l {r with state:=.done,pending:=some .ret}->K (.bool false) u):Bn l K .ret w:=abe r h (k _ (aj.putObj _ _ _) (h.put _))
theorem dL{K:KK}{F:Fr}(r:Loop)(h:dc w l r)(hs:r.state≠.busy)(k:∀u,aj (λb=>b≠l) w u->Kl K F ds r.pending u):∃r,dc w l r/\r.state≠.busy/\Kl K F ds r.pending (w.putObj l (.loop {r with state:=.exhausted})):=⟨r,h,hs,k _ (aj.putObj _ _ _)⟩
end
section
open Classical
section
variable {P:Program}
theorem bW{f:FuncId}[h:Enters P f]{args:Array Value}{v0:Value}{K:VK}{X:XK}(c:aK P f args w λv u=>v=v0/\ax w u)(k:∀u,ax w u->K v0 u):vF P f args K X w:=aJ c λ_ u h=>by rw[h.1];exact k u h.2
theorem zQ{c d:aW}(k:ax w u)(h1:aP w a s c)(z:aP w b t d):aP u a s c/\aP u b t d:=⟨h1.ae k,z.ae k⟩
theorem P9{c d l:aW}(k:ax w u)(h1:aP w a s c)(A:aP w b t d)(z:aP w i j l):aP u a s c/\aP u b t d/\aP u i j l:=⟨h1.ae k,A.ae k,z.ae k⟩
theorem Xj{m:Nat}{n:TypeId}{c d l o:aW}(k:ax w u)(h1:aP w a s c)(J:aP w b t d)(A:aP w i j l)(z:aP w m n o):aP u a s c/\aP u b t d/\aP u i j l/\aP u m n o:=⟨h1.ae k,J.ae k,A.ae k,z.ae k⟩
theorem Pz{z:World}{m q:Nat}{n r:TypeId}{c d l o u:aW}(k:ax w z)(h1:aP w a s c)(O:aP w b t d)(M:aP w i j l)(J:aP w m n o)(A:aP w q r u):aP z a s c/\aP z b t d/\aP z i j l/\aP z m n o/\aP z q r u:=⟨h1.ae k,O.ae k,M.ae k,J.ae k,A.ae k⟩
theorem ldB[cF P t]{v:Value}(A:aP w b e cs)(z:cs[o]? =some v)(k:K v):kg P (λu=>u=w) t (.pointer (some (ad b o))) K:=ld v (A.ai z) k
theorem aqm{n:Nat}[dJ P t n](A:aP w b e cs)(z:cs.length=n)(k:K (.agg cs.toArray)):kg P (λu=>u=w) t (.pointer (some (ad b 0))) K:=fj cs (bF.aS A) z k
theorem aqn[cF P t]{v:Value}(A:aP w b e cs)(z:cs[o]? =some v)(J:D b)(k:K v):kg P (λu=>aj D w u) t (.pointer (some (ad b o))) K:=fu v (A.ai z) J (.refl _ _) k
theorem amD{n:Nat}[dJ P t n](A:aP w b e cs)(z:cs.length=n)(J:D b)(k:K (.agg cs.toArray)):kg P (λu=>aj D w u) t (.pointer (some (ad b 0))) K:=tM cs (bF.aS A) z J (.refl _ _) k
theorem ldC[cF P t]{j:Nat}{v:Value}(A:bF w b o cs)(z:cs[j]? =some v)(k:K v):kg P (λu=>u=w) t (.pointer (some (ad b (o+j)))) K:=ld v (A j v z) k
theorem aqo[cF P t]{v:Value}(A:bF w b o cs)(z:cs[0]? =some v)(k:K v):kg P (λu=>u=w) t (.pointer (some (ad b o))) K:=ld v (A 0 v z) k
theorem aqp{n:Nat}[dJ P t n](A:bF w b o cs)(z:cs.length=n)(k:K (.agg cs.toArray)):kg P (λu=>u=w) t (.pointer (some (ad b o))) K:=fj cs A z k
theorem fg{n:Nat}[dJ P t n]{g:Nat}{vs:aW}{K:VK}(M:aP w g e cs)(z:∀u,aP u g e (cs.take i++vs++cs.drop (i+vs.length))->aj (λb=>b≠g) w u->u.heap.size=w.heap.size->K undef u)(J:vs.length=n:=by rfl)(hi:i+vs.length<=cs.length:=by exact asB rfl)(A:∀v∈vs,v.oneCell'=true:=by simp[Value.oneCell']):xA P t (.pointer (some (ad g i))) (.agg vs.toArray) K w:=jR M J hi A z
end
theorem xq{α:Sort _}(a:α):∃x,x=a:=⟨a,rfl⟩
noncomputable def oP (es bs is:List Nat):iz:=List.rec (motive:=λ_=>iz) .done (λi _ ih=>bif bs.any (Nat.beq i) then .UJ (bif es.any (Nat.beq i) then .DF i ih else .take i ih) else bif es.any (Nat.beq i) then .DF i ih else .take i ih) is
theorem go{A B:Prop}(q:B)(f:Hold B->A:=by
 intro q;repeat first
  |refine bC ?_
  |refine ldB (by assumption) (by rfl) ?_
  |refine aqm (by assumption) (by rfl) ?_
  |refine ldC (by assumption) (by rfl) ?_
  |refine aqo (by assumption) (by rfl) ?_
  |refine aqp (by assumption) (by rfl) ?_
  |refine an ?_
  |refine eD (by omega) ?_
  |refine eD (n:=_+_) (by omega) ?_
  |refine eD (n:=_-_) (by omega) ?_
  |refine idx _ rfl (by omega) ?_
  |refine idx 0 rfl (by omega) ?_
  |refine idx 1 rfl (by omega) ?_
  |refine aqn (by assumption) (by rfl) (by first|trivial|omega) ?_
  |refine amD (by assumption) (by rfl) (by first|trivial|omega) ?_
  |refine bN (by first|trivial|exact .refl _ _) ?_
 exact q.un):A:=f ⟨q⟩
end
abbrev amE:Nat->Prop:=λ_=>True
structure RdN {α:Type} (P:Program) (n:Nat) (t:TypeId) (a:Ty α):Prop where
 h:∀{H:Type} {enc:TypeId×Value->H} {W:World} {cs:aW} {x:DataW H×List MemPlace},DataW.trod enc P W 0 (λ_=>true) true n t cs=some x->(x.1.weights P t).all (·<=reachBytes)=true->∃y,a.uF amE W cs y
class Rd {α:Type} (P:Program) (t:TypeId) (a:Ty α):Prop where
 h:∀n,RdN P n t a
def Xk(o:Option Value)(k d:Nat):Prop:=match o with|none=>k=d|some (.int _ i)=>i=(k:Int)|_=>False
section
variable {P:Program}
theorem run_sliceBound{i:Int}{k y:Nat}(code:BoundsCode)(hi:i=(k:Int))(hk:k<=y)(w:World):(Instr.sliceBound (.int kd i) y code).run P w=.ok k w:=by
 subst hi;simp[Instr.sliceBound,asIntOf,hk]
theorem mF{J:Bool}{n c:Nat}{lo hi:Option Value}{l h:Nat}(z:Xk lo l 0)(A:Xk hi h n)(h1:l<=h)(M:h<=c)(w:World):(Instr.sliceBounds J n c lo hi none).run P w=.ok (l,h,c) w:=by
 cases hi with
 |none=>
  obtain rfl:h=n:=A;cases lo with
  |none=>obtain rfl:l=0:=z;simp[Instr.sliceBounds]
  |some v=>cases v<;>first|exact z.elim|simp[Instr.sliceBounds,run_sliceBound _ z h1]
 |some u=>
  cases u<;>first|exact A.elim|skip
  cases lo with
  |none=>obtain rfl:l=0:=z;simp[Instr.sliceBounds,run_sliceBound _ A M]
  |some v=>cases v<;>first|exact z.elim|simp[Instr.sliceBounds,run_sliceBound _ A M,run_sliceBound _ z h1]
theorem bS.sub{α:Type}{a:Ty α}{n:Nat}{xs:List α}{h u:Nat}(hs:bS a D w (some (ad b o)) n xs)(h1:l<=h)(M:h<=n)(A:l<h->u=o+l*a.sz):bS a D w (some (ad b u)) (h-l) ((xs.take h).drop l):=by
 obtain⟨J,hle,z⟩:=hs;refine⟨by rw[atM,asF];omega,Y,λk x hk=>?_⟩;rw[au9,aty] at hk;split at hk
 .exact Yg
 .cases hk
theorem Km{α:Type}{a:Ty α}{D:Nat->Prop}{w:World}{t e:TypeId}{sz:Nat}[W:cu P t e sz]{A:bZ}{n c:Nat}{lo hi:Option Value}{K:Value->Prop}{xs:List α}(l h:Nat)(hs:bS a D w A n xs)(hc:n<=c)(Z:Xk lo l 0)(a1:Xk hi h n)(h1:l<=h)(h2:h<=n)(V:a.sz=sz)(kk:∀A':bZ,(∀(D':Nat->Prop) (M:World),bS a D' M A n xs->bS a D' M A' (h-l) ((xs.take h).drop l))->K (.slice A' (h-l) (c-l))):PS P t (.slice A n c) lo hi none K:=by
 rw[vE];obtain⟨hu,inf,J,X⟩:=dF W.h;have z:∀w,(Instr.sliceAt t (.slice A n c) lo hi none).run P w=.ok (.slice (if c=l then A else A.map (·.add (l*sz))) (h-l) (c-l)) w:=λw=>by unfold Instr.sliceAt;rw[asI,asX hu];simp only[asJ];unfold Instr.slice;rw[asI,asX hu];simp only[asJ];rw[asI,mF Z a1 h1 Y];simp only[asJ];rw[asI,run_sizeOf J,X];rfl
 refine cW z (kk _ λD' M O=>?_);cases A with
 |none=>
  have u:xs=[]:=by
   cases xs with
   |nil=>rfl
   |cons x r=>obtain⟨_,_,_,e,_⟩:=O.2.2 0 x rfl;cases e
  have hn:n=0:=by have:=O.1;rw[u] at this;exact this
  subst u;obtain rfl:l=0:=Y;obtain rfl:h=0:=Y;simp only[List.take_nil,List.drop_nil,aug];split<;>exact .nil
 |some q=>
  by_cases h0:l<h
  .obtain⟨b,o,_,_,e,_⟩:=O.au (k:=0) Y;obtain rfl:q=ad b o:=awx e;rw[aso Y];show bS a D' M (some ((ad b o).add (l*sz))) (h-l) _;rw[ru,<-V];exact O.sub h1 h2 λ_=>rfl
  .have e:(xs.take h).drop l=[]:=as8 Yg;rw[e,show h-l=0 from Y];exact .nil
end
section
variable {P:Program} {X:XK}
theorem rA(u: -9223372036854775808<=n/\n<=9223372036854775807):IntKind.i64.wrap n=n:=by
 have:=eD (K:=λv=>v=.int .i64 n) u U;rw[pR] at this;injection this
theorem HF{p:Prop}[Decidable p](u:¬p->K (.bool false))(h1:p->K (.bool true)):nU p K:=.of ⟨h1,u⟩
theorem qP{u:IntKind}{n:Nat}{i:Int}[J:qO P s u][h:qO P t .u64](hi:i=n)(A:n<9223372036854775808)(z:K (.int .u64 (n:Int))):Ef P s t (.int u i) K:=by
 subst hi;apply conv (k:=.u64);rw[pj,Int.emod_eq_of_lt Y Y];exact z
theorem abg{a b:Int}(u:b≠0)(k:K (.int kd (a.tmod b))):PO kd a b K:=by rw[zJ];exact⟨u,k⟩
theorem aqq{a b:Int}(c:Int)(z:b≠0)(u:a.tdiv b=c)(h: -9223372036854775808<=c/\c<=9223372036854775807)(k:K (.int .i64 c)):PN .i64 a b K:=by
 rw[vC];exact⟨z,by rw[u,rA h];exact k⟩
theorem st1[h:iL P t]{g:Nat}{u v:Value}{K:VK}(M:aP w g e [u])(J:v.oneCell'=true)(A:∀z,aP z g e [v]->aj (λb=>b≠g) w z->K undef z):xA P t (.pointer (aL g)) v K w:=st M Yl J λz h1 O _=>A z h1 O
theorem eA{args:Array Value}{R K:VK}(h:iQ P l args R w)(k:∀v u,R v u->K v u):iQ P l args K w:=by
 rw[sR] at h|-;exact h.mono k
end
abbrev ptr(b:Nat):Value:=.pointer (some (ad b 0))
abbrev iv(n:Int):Value:=.int .i64 n
structure Q where
 n:Int
 d:Int
deriving DecidableEq
abbrev Q.v(a:Q):Value:=.agg #[iv a.n,iv a.d]
def dR(a:Q):Bool:=decide (1<=a.d)&&(decide (a.d<=1073741824)&&(decide (-1073741824<=a.n)&&(decide (a.n<=1073741824)&&(Nat.gcd a.n.natAbs a.d.toNat == 1))))
theorem cV{a:Q}:dR a=true↔1<=a.d/\a.d<=1073741824/\-1073741824<=a.n/\a.n<=1073741824/\Nat.gcd a.n.natAbs a.d.toNat=1:=by
 unfold dR;simp only[asv,asy,avB]
def tO(a:Q):Int:=if dR a then 0 else 120
def zi(x y:Int):Int:=if x<y then -1 else if x>y then 1 else 0
def Bt(a b:Q):Int×Int:=if dR a&&dR b then(zi (a.n*b.d) (b.n*a.d),0) else(0,120)
theorem lW{y:Int}(z: -1073741824<=x/\x<=1073741824)(u: -1073741824<=y/\y<=1073741824): -1152921504606846976<=x*y/\x*y<=1152921504606846976:=by
 have h1:=Int.natAbs_mul x y;have A:x.natAbs*y.natAbs<=1073741824*1073741824:=atK Y Y;omega
section
variable {w:World}
theorem FR:aK prog 183 #[iv x] w (λv u=>v=.bool false/\u=w):=by
 refine aF func183 Z<|cN (λh=>absurd U h) λ_=>aQ _ U ⟨U,U⟩
theorem NO{y:Int}:aK prog 93 #[iv x,iv y] w (λv z=>v=iv (zi x y)/\z=w):=by
 refine aF func93 Z<|aJ FR ?_;rintro _ _ ⟨rfl,rfl⟩;apply aJ FR;rintro _ _ ⟨rfl,rfl⟩;refine cD (λh=>?_) λh=>?_
 .exact aQ (iv (-1)) U ⟨by unfold zi;rw[asp h],U⟩
 refine cD (λu=>?_) λu=>?_
 .exact aQ (iv 1) U ⟨by unfold zi;rw[aso h,asp u],U⟩
 .exact aQ (iv 0) U ⟨by unfold zi;rw[aso h,aso u],U⟩
theorem HG(hn: -1073741824<=n/\n<=1073741824):aK prog 387 #[iv n] w (λv w'=>v=.int .u64 (n.natAbs:Int)/\w'=w):=by
 exact aop
theorem Qa(a b:Nat):Nat.gcd b (a%b)=Nat.gcd a b:=by rw[Nat.gcd_comm b,<-Nat.gcd_rec,Nat.gcd_comm]
theorem DG{O V:Nat}(J:Nat->World->Prop)(z:O≠V)(hJ:∀d w A,J d w->aj (λx=>x≠O/\x≠V) w A->J d A)(M:∀(d x:Nat) w,J d w->iQ prog l [.int .u64 (x:Int)].toArray (λv A=>v=.bool true/\J x A/\aj D w A) w)(ak:D O)(af:D V)(h1:aP w O 322 [.int .u64 (a:Int)])(h2:aP w V 322 [.int .u64 (b:Int)])(hb:0<b)(h0:J b w):aK prog 406 #[.func (.yield l) #[] #[],ptr O,ptr V] w (λ_ A=>J (Nat.gcd a b) A):=by
 refine aF func406 Z ?_;refine HC (λ(_ _ _:Nat)=>[]) (λx y d A=>0<y/\Nat.gcd x y=Nat.gcd a b/\aP A O 322 [.int .u64 (x:Int)]/\aP A V 322 [.int .u64 (y:Int)]/\J d A/\(x=0->d=y)) (λ_ y _ _=>y) a b b Yt ⟨hb,U,h1,h2,h0,λ_=>rfl⟩ U ?_;rintro G x y d w1 ⟨hy,hg,e1,e2,hj,hd⟩;refine go ?_;refine cN (λhx=>?_) λhx=>?_
 .refine go ?_;refine eA (M d x w1 hj) ?_;rintro _ w2 ⟨rfl,ab,k2⟩;have f1:=e1.ah k2 ak;have f2:=e2.ah k2 af;refine bR (oP [1,5,6] [6] [0,2,3,1,4,5,6]) [6] (λu=>aj (λx=>x≠O) w2 u) mx Z (.refl _ _) ?_;refine fu _ (f2.ai U) (Ne.symm z) (.refl _ _) ?_;refine fu _ (f2.ai U) (Ne.symm z) (.refl _ _) ?_;refine go ?_;refine ZJ Y Y ?_;obtain⟨r,hr⟩:∃r:Nat,(x:Int)%max (y:Int) 1=(r:Int):=⟨x%y,by rw[Int.max_eq_left Y];rfl⟩;have W:r=x%y:=by
   rw[Int.max_eq_left Y] at hr;have:((x%y:Nat):Int)=(r:Int):=by rw[<-hr];rfl
   omega
  rw[hr];have a8:r<y:=by rw[W];exact Nat.mod_lt _ hy
  have a6:Nat.gcd y r=Nat.gcd a b:=by rw[W,Qa,hg]
  refine st1 f1 U λw3 s1 k3=>bN k3<|gv (λ_=>True) Yt<|st1 (f2.ah k3 (Ne.symm z)) U λw4 s2 k4=>go ?_;have t1:=s1.ah k4 z;have a1:=hJ x w2 w4 ab ((k3.cU λ_ _ h=>h.1).trans (k4.cU λ_ _ h=>h.2));refine go<|cE (λh0=>?_) λh0=>?_
  .refine go<|eA (M x y w4 a1) ?_;rintro _ w5 ⟨rfl,aa,-⟩;refine mD ?_;rw[<-a6,show r=0 from Y,Nat.gcd_zero_right];exact aa
  .exact yN y r x Yt ⟨Y,a6,t1,s2,a1,λh=>Y⟩ a8
 .have a7:x=0:=Y;subst a7;refine mD ?_;rw[<-hg,Nat.gcd_zero_left];rw[hd U] at hj;exact hj
theorem FT:aK prog 402 #[.int .u64 (a:Int),.int .u64 (b:Int)] w (λv w'=>∃b1 b2,v=.func (.func 406) #[] #[ptr b1,ptr b2]/\ax w w'/\aP w' b1 322 [.int .u64 (a:Int)]/\aP w' b2 322 [.int .u64 (b:Int)]/\w.heap.size<=b1/\b1<b2):=by
 refine aF func402 Z<|box λb1 w1 h1=>box λb2 w2 h2=>?_;exact W3
theorem Eo:aA 386 #[.int .u64 (a:Int),.int .u64 (b:Int)] w (.int .u64 (Nat.gcd a b:Int)):=by
 refine aF func386 Z<|alloc λr w1 h1=>cE (λh0=>?_) λh0=>?_
 .refine st1 h1.aS U λw2 z k2=>ret<|da _ (bj (z.ai U)) ?_;have e1:=h1.au;have:b=0:=Y;subst this;rw[Nat.gcd_zero_right];exact⟨U,h1.ae.ag k2 λb hb _ e=>Y⟩
 .refine st1 h1.aS U λw2 z k2=>?_;have e1:=h1.au;have x2:ax w w2:=h1.ae.ag k2 λb hb _ e=>Y;apply aJ FT;rintro _ A ⟨b1,b2,rfl,x3,g1,g2,af,ab⟩;have z2:=z.lt;refine range (gf:=406) (lb:=#[ptr b1,ptr b2]) U λfn tmps w4 R hR hF a6 x4 z4 aa a7=>?_;show aK _ _ #[.func (.yield (A.heap.size+1)) #[] #[],ptr b1,ptr b2] w4 _;have l1:=g1.lt;have l2:=g2.lt;refine(DG (D:=λx=>x≠r/\x≠A.heap.size+1) (λd M=>aj (λx=>x≠r/\x≠b1/\x≠b2/\x≠A.heap.size+1) w4 M/\dc M (A.heap.size+1) R/\aP M r 322 [.int .u64 (d:Int)]) Y (λd w5 w6 ⟨W,J,O⟩ u=>⟨W.ag u λ_ _ h=>⟨h.2.1,h.2.2.1⟩,J.ah u ⟨Y,Y⟩,O.ah u ⟨Y,Y⟩⟩) ?_ ⟨Y,Y⟩ ⟨Y,Y⟩ (g1.ae x4) (g2.ae x4) Y ⟨.refl _ _,a7,(z.ae x3).ae x4⟩).mono ?_
  .rintro d x w5 ⟨W,J,O⟩;subst hR;refine dQ (args:=[.int .u64 (x:Int)]) J U rfl hF a6<|tN J λw6 u _ l6=>st1 (O.ah u Y) U λw7 q7 k7=>eQ _ (l6.ah k7 Y) λw8 V l8=>?_;have kk:aj (λx=>x≠r/\x≠A.heap.size+1) w5 w8:=((u.cU λ_ _ h=>h.2).trans (k7.cU λ_ _ h=>h.1)).trans (V.cU λ_ _ h=>h.2);exact⟨U,⟨W.ag kk λ_ _ h=>⟨h.1,h.2.2.2⟩,l8,q7.ah V Y⟩,kk⟩
  .rintro v w5 ⟨W,J,O⟩;subst hR;refine dL _ J (by simp) λw6 u=>?_;have q6:=O.ah u Y;refine go<|st1 q6 U λw7 q7 k7=>?_;have a1:=(W.ag u λ_ _ h=>h.2.2.2).ag k7 λ_ _ h=>h.1;have a8:=(a1.aS _ Y ⟨Y,Y,Y,Y⟩).trans aa;apply oN a8;have V:=aj.putObj w7 A.heap.size (.deferred none);refine da _ (bj ((q7.ah V Yg).ai U))<|⟨U,x2.ag (((ax.any (D:=λb=>b<w.heap.size) (x3.trans x4)).ag a1 λb _ h=>⟨Y,Y,Y,by have:=x2.size;have:=x3.size;omega⟩).ag V λb _ h=>Yg) λb hb _=>hb⟩
theorem pk{a:Q}:aA 360 #[a.v] w (iv (tO a)):=by
 refine aF func360 Z<|box λb w1 h1=>?_;have bad:dR a=false->iv 120=iv (tO a):=λh=>by unfold tO;rw[h];rfl
 have h:=h1.aS;apply Xf [0,1,2,3,4,5,6,7,8,9,10,11,12,13,14,15,16,17,18,19,20,21,22,23,24,25,26,27] [25] mx Z;apply bC;apply Kg _ (h.ai U) (.refl _ _);refine cD (λg1=>?_) λg1=>?_
 .exact W4
 refine bC ?_;refine Kg _ (h.ai U) (.refl _ _) ?_;refine cD (λg2=>?_) λg2=>?_
 .exact W4
 refine bC ?_;refine Kg _ (h.ai U) (.refl _ _) ?_;refine cD (λg3=>?_) λg3=>?_
 .exact W4
 refine bC ?_;refine Kg _ (h.ai U) (.refl _ _) ?_;refine cD (λg4=>?_) λg4=>?_
 .exact W4
 refine bC ?_;refine Kg _ (h.ai U) (.refl _ _) ?_;refine um (v:=.int .u64 (a.n.natAbs:Int)) (λu _=>HG Y) ?_;refine bC ?_;refine Kg _ (h.ai U) (.refl _ _) ?_;refine qP (n:=a.d.toNat) Y Y ?_;refine bW Eo λw2 x2=>?_;refine bN x2 ?_;refine cN (λg5=>?_) λg5=>?_
 .exact aQ _ U ⟨bad (atl.2 λe=>by have:=cV.1 e;omega),h1.ae.trans x2⟩
 .refine aQ _ U ⟨?_,h1.ae.trans x2⟩;unfold tO;rw[cV.2 ⟨Y,Y,Y,Y,Y⟩];rfl
theorem ov{a:Q}:tO a=0↔dR a=true:=by unfold tO;cases dR a<;>simp
theorem Qb{a b:Q}:aA 359 #[a.v,b.v] w (.tuple #[iv (Bt a b).1,iv (Bt a b).2]):=by
 refine aF func359 Z<|box λga w1 h1=>box λgb w2 z=>?_;have J:=h1.ae.trans z.ae;have ba:=h1.aS.ae z.ae;refine go<|bW (pk (a:=a)) λw3 A=>?_;refine cN (λg1=>?_) λg1=>?_
 .refine tK (iv 0) (iv 120) U rfl ⟨?_,J.trans A⟩;have:=atl.2 λe=>g1 (ov.2 e);unfold Bt;rw[this];rfl
 refine fj _ (.aS (z.aS.ae A)) U<|bW (pk (a:=b)) λw4 V=>?_;have M:=ov.1 g1;have u:=A.trans V;refine cN (λg2=>?_) λg2=>?_
 .refine tK (iv 0) (iv 120) U rfl ⟨?_,J.trans u⟩;have:=atl.2 λe=>g2 (ov.2 e);unfold Bt;rw[M,this];rfl
 have O:=ov.1 g2;have va:=cV.1 M;have vb:=cV.1 O;have p1:=lW (x:=a.n) (y:=b.d) Y Y;have p2:=lW (x:=b.n) (y:=a.d) Y Y;have a6:=ba.ae u;have a1:=z.aS.ae u;refine go<|aJ NO ?_;rintro _ _ ⟨rfl,rfl⟩;refine tK (iv (zi (a.n*b.d) (b.n*a.d))) (iv 0) U rfl ⟨?_,J.trans u⟩;unfold Bt;rw[M,O];rfl
theorem Qc{d:Int}(hd:0<d):(n-(n.tmod d+d).tmod d).tdiv d=n/d:=by
 have h1:n.tmod d+d=n.tmod d+d:=U;have J:=av8 n hd;have u:=av9 n hd;have A:(n.tmod d+d).tmod d=n%d:=by
  rw[auR Y,Int.add_emod_right];have:=Int.tmod_eq_emod (a:=n) (b:=d);rw[this];split
  .simp
  .rw[Int.natAbs_of_nonneg Y,Int.sub_emod,Int.emod_self,Int.sub_zero,Int.emod_emod_of_dvd _ (Int.dvd_refl d),Int.emod_emod_of_dvd _ (Int.dvd_refl d)]
 rw[A];have z:n-n%d=d*(n/d):=by have:=Int.emod_add_mul_ediv n d;omega
 rw[z,Int.mul_tdiv_cancel_left _ Y]
theorem Qd{d:Int}(hd:0<d/\d<=1073741824)(W: -1152921504606846976<=n/\n<=1152921504606846976):aK prog 361 #[iv n,iv d] w (λv u=>v=iv (n/d)/\u=w):=by
 apply aF func361 Z;have V:=av8 n hd.1;have A:=av9 n hd.1;refine abg Y<|go ?_;have hs:=av8 (n.tmod d+d) hd.1;have z:=av9 (n.tmod d+d) hd.1;refine abg Y<|go ?_;have J:=Qc (n:=n) hd.1;have O: -1152921504606846976<=n/d:=by have:=Int.le_ediv_of_mul_le (a:=-1152921504606846976) (b:=n) hd.1 (by have: -1152921504606846976*d<=-1152921504606846976:=Y;omega);exact this
 have M:n/d<=1152921504606846976:=by have h:n/d<1152921504606846977:=avN hd.1 (by have:1152921504606846977<=1152921504606846977*d:=Y;omega);omega
 refine aqq (n/d) Y J Y<|aQ _ U ⟨U,U⟩
def ny(a:Q)(n:Int):Int×Int×Int:=if dR a then(if n< -1073741824\/1073741824<n then(0,0,1) else(a.n*n/a.d,-(-a.n*n/a.d),0)) else(0,0,120)
theorem FU{a:Q}:aA 294 #[a.v,iv n] w (.tuple #[iv (ny a n).1,iv (ny a n).2.1,iv (ny a n).2.2]):=by
 apply aF func294 Z;refine box λga w1 h1=>?_;apply fj _ (.aS h1.aS) U;refine bW (pk (a:=a)) λw2 J=>?_;have z:=h1.ae.trans J;refine cN (λg1=>?_) λg1=>?_
 .have A:dR a=false:=atl.2 λe=>g1 (ov.2 e);refine xN (iv 0) (iv 0) (iv (tO a)) U rfl rfl ⟨?_,z⟩;unfold ny tO;rw[A];rfl
 have A:=ov.1 g1;have va:=cV.1 A;have W:=h1.aS.ae J;refine cD (λg2=>?_) λg2=>?_
 .refine xN (iv 0) (iv 0) (iv 1) U rfl rfl ⟨?_,z⟩;unfold ny;rw[A,asp U,asp (.inl g2)]
 refine cD (λg3=>?_) λg3=>?_
 .refine xN (iv 0) (iv 0) (iv 1) U rfl rfl ⟨?_,z⟩;unfold ny;rw[A,asp U,asp (.inr g3)]
 have p1:=lW (x:=a.n) (y:=n) Y Y;have p2:=lW (x:=-a.n) (y:=n) Y Y;refine uo mx Z ?_;refine go ?_;refine um (v:=iv (a.n*n/a.d)) (λu _=>Qd Y Y) ?_;refine go ?_;rw[show(0:Int)-a.n= -a.n from Y];refine eD Y ?_;refine bC ?_;refine ld _ (W.ai U) ?_;refine um (v:=iv (-a.n*n/a.d)) (λu _=>Qd Y Y) ?_;have V: -1152921504606846976<=-a.n*n/a.d:=by have:=Int.le_ediv_of_mul_le (a:=-1152921504606846976) (b:=-a.n*n) (c:=a.d) Y (by have: -1152921504606846976*a.d<=-1152921504606846976:=Y;omega);exact this
 have O: -a.n*n/a.d<=1152921504606846976:=by have h: -a.n*n/a.d<1152921504606846977:=avN Y (by have:1152921504606846977<=1152921504606846977*a.d:=Y;omega);omega
 refine go ?_;refine xN (iv (a.n*n/a.d)) (iv (0- -a.n*n/a.d)) (iv 0) U rfl rfl ⟨?_,z⟩;unfold ny;rw[A,asp U,aso Y,Int.zero_sub]
end
structure Rg where
 lo:Int
 hi:Int
deriving DecidableEq
abbrev Rg.v(x:Rg):Value:=.agg #[iv x.lo,iv x.hi]
structure Reach where
 name:ByteArray
 up:Int
 bD:Int
 cap:Int
 vN:Int
 dM:Int
 dN:Rg
 s0:Q
 s1:Q
abbrev Reach.c(r:Reach):aW:=[.string r.name,iv r.up,iv r.bD,iv r.cap,iv r.vN,iv r.dM,iv r.dN.lo,iv r.dN.hi,iv r.s0.n,iv r.s0.d,iv r.s1.n,iv r.s1.d]
abbrev Reach.v(r:Reach):Value:=.agg #[.string r.name,iv r.up,iv r.bD,iv r.cap,iv r.vN,iv r.dM,iv r.dN.lo,iv r.dN.hi,iv r.s0.n,iv r.s0.d,iv r.s1.n,iv r.s1.d]
abbrev Xl(a b:Q):Value:=.agg #[iv a.n,iv a.d,iv b.n,iv b.d]
def dS(n lo hi:Int):Bool:=decide (lo<=n)&&decide (n<=hi)
theorem bO{lo hi:Int}:dS n lo hi=true↔lo<=n/\n<=hi:=by unfold dS;simp
theorem FV{lo hi:Int}:dS n lo hi=false↔¬(lo<=n/\n<=hi):=by rw[<-bO];simp
def mG(a:Q):Bool:=dR a&&dS a.n 0 a.d
def jE(a b:Q):Bool:=mG a&&(mG b&&decide (a.n*b.d<=b.n*a.d))
def Kn(x:Rg)(most:Int):Bool:=decide (0<=x.lo)&&(decide (x.lo<=x.hi)&&decide (x.hi<=most))
theorem po{x:Rg}{most:Int}:Kn x most=true↔0<=x.lo/\x.lo<=x.hi/\x.hi<=most:=by unfold Kn;simp
def eB(r:Reach):Bool:=Kn r.dN 1073741824&&jE r.s0 r.s1
def uH(r:Reach)(v:Int):Int:=if eB r=false then 210 else if dS v 0 1073741824=false then 1 else 0
def Ep(a b:Int):Int:=(a+b-1)/b
def gM(r:Reach)(v:Int):Rg:=if v=0 then⟨0,0⟩ else⟨min v (r.dN.lo+v*r.s0.n/r.s0.d),min v (r.dN.hi+Ep (v*r.s1.n) r.s1.d)⟩
theorem eJ{a:Q}:mG a=true↔dR a=true/\0<=a.n/\a.n<=a.d:=by unfold mG;rw[asv,bO]
theorem gy{a b:Q}:jE a b=true↔mG a=true/\mG b=true/\a.n*b.d<=b.n*a.d:=by unfold jE;simp
theorem fJ{r:Reach}:eB r=true↔(0<=r.dN.lo/\r.dN.lo<=r.dN.hi/\r.dN.hi<=1073741824)/\jE r.s0 r.s1=true:=by unfold eB;rw[asv,po]
theorem sV{r:Reach}{v:Int}:uH r v=0↔eB r=true/\0<=v/\v<=1073741824:=by
 unfold uH;rw[<-bO];cases eB r<;>cases dS v 0 1073741824<;>simp
theorem abh{d:Int}(hd:0<d): -(-x/d)=Ep x d:=by
 unfold Ep;have h1:=Int.emod_add_mul_ediv (-x) d;have M:=awy (-x) (show d≠0 from Y);have J:=awa (-x) hd;have A:x+d-1=(d-1- -x%d)+d* -(-x/d):=Yg;have z:x+d-1=(d-1- -x%d)+(-(-x/d))*d:=Yg;have u:(d-1- -x%d)/d=0:=Int.ediv_eq_zero_of_lt Y Y;rw[z,Int.add_mul_ediv_right _ _ Y,u,avV]
theorem bF.JR(h:bF w b o cs)(k n:Nat):bF w b (o+k) ((cs.drop k).take n):=λj v u=>by
 rw[aty] at u;split at u
 .rw[au9] at u;have:=h _ _ u;rwa [avH]
 .cases u
theorem rB{a:Q}{v:Int}(h:mG a=true)(u:0<=v):0<=v*a.n/\v*a.n/a.d<=v/\0<=v*a.n/a.d/\Ep (v*a.n) a.d<=v/\0<=Ep (v*a.n) a.d:=by
 obtain⟨h1,A,z⟩:=eJ.1 h;obtain⟨d1,-⟩:=cV.1 h1;have p:=atq u A;have q:v*a.n<=v*a.d:=atd z u;refine⟨p,?_,aue p Y,?_,?_⟩
 .exact Int.ediv_le_of_le_mul Y q
 .unfold Ep;have:(v*a.n+a.d-1)/a.d<v+1:=avN Y (by rw[atX];omega);omega
 .unfold Ep;exact aue Y Y
section
variable {w:World}
theorem Xm{lo hi:Int}:aK prog 293 #[iv n,iv lo,iv hi] w (λv w'=>v=.bool (dS n lo hi)/\w'=w):=by
 refine aF func293 Z<|HF (λg1=>?_) λg1=>?_
 .exact uB
 exact g_8
theorem HH{a:Q}:aA 358 #[a.v] w (.bool (mG a)):=by
 refine aF func358 Z<|box λb O h1=>fj _ (.aS h1.aS) U<|bW (pk (a:=a)) λM u=>?_;refine cE (λg=>?_) λg=>?_
 .have z:=ov.1 g;have V:=h1.aS.ae u;refine go<|cR Xm (λA=>?_) λA=>?_
  .exact aQ _ U ⟨by unfold mG;rw[z,A];rfl,h1.ae.trans u⟩
  .exact aQ _ U ⟨by unfold mG;rw[z,A];rfl,h1.ae.trans u⟩
 .have z:=atl.2 λe=>g (ov.2 e);exact aQ _ U ⟨by unfold mG;rw[z];rfl,h1.ae.trans u⟩
theorem NP{a b:Q}:aA 292 #[Xl a b] w (.bool (jE a b)):=by
 refine aF func292 Z<|box λg w1 h1=>?_;have M:=bF.aS h1.aS;refine qW 0 U Yd<|fj _ (M.JR 0 2) U<|dt (HH (a:=a)) (λY J A=>?_) λY J A=>?_
 .refine qW 1 U Yd<|fj _ ((M.JR 2 2).ah A Yt) U<|dt (HH (a:=b)) (λX O V=>?_) λX O V=>?_
  .have u:=A.trans V;refine qW 0 U Yd<|fj _ ((M.JR 0 2).ah u Yt) U<|qW 1 U Yd<|fj _ ((M.JR 2 2).ah u Yt) U<|bW (Qb (a:=a) (b:=b)) λw4 W=>?_;have hC:Bt a b=(zi (a.n*b.d) (b.n*a.d),0):=by unfold Bt;rw[(eJ.1 J).1,(eJ.1 O).1];rfl
   rw[hC];refine cE (λ_=>?_) λh=>absurd U h;have z:zi (a.n*b.d) (b.n*a.d)<=0↔a.n*b.d<=b.n*a.d:=by unfold zi;split<;>(try split)<;>omega
   refine cD (λg2=>?_) λg2=>?_
   .exact aQ (.bool true) U ⟨by rw[gy.2 ⟨J,O,z.1 g2⟩],h1.ae.trans (u.trans W)⟩
   .refine aQ (.bool false) U ⟨?_,h1.ae.trans (u.trans W)⟩;rw[show jE a b=false from atl.2 λe=>g2 (z.2 (gy.1 e).2.2)]
  .exact aQ _ U ⟨by unfold jE;rw[J,O];rfl,h1.ae.trans (A.trans V)⟩
 .exact aQ _ U ⟨by unfold jE;rw[J];rfl,h1.ae.trans A⟩
theorem Ko{x:Rg}{most:Int}:aA 291 #[x.v,iv most] w (.bool (Kn x most)):=by
 refine aF func291 Z<|box λg z h1=>?_;have bad:¬(0<=x.lo/\x.lo<=x.hi/\x.hi<=most)->Value.bool false=.bool (Kn x most):=λh=>by rw[show Kn x most=false from atl.2 λe=>h (po.1 e)]
 refine go ?_;refine ld _ (h1.aS.ai U) ?_;refine HF (λg1=>?_) λg1=>?_
 .exact aQ _ U ⟨bad Y,h1.ae⟩
 refine go ?_;refine ld _ (h1.aS.ai U) ?_;refine go ?_;refine ld _ (h1.aS.ai U) ?_;refine HF (λg2=>?_) λg2=>?_
 .exact aQ _ U ⟨bad Y,h1.ae⟩
 refine go<|ld _ (h1.aS.ai U)<|HF (λg3=>?_) λg3=>?_
 .exact aQ _ U ⟨bad Y,h1.ae⟩
 .exact aQ (.bool true) U ⟨by rw[po.2 Y],h1.ae⟩
theorem HJ{r:Reach}:aA 210 #[r.v,iv n] w (iv (uH r n)):=by
 refine aF func210 Z<|box λg w1 h1=>?_;have hc:=bF.aS h1.aS;refine go<|fj _ (hc.JR 6 2) U<|dt (Ko (x:=r.dN)) (λw2 ha x2=>?_) λw2 ha x2=>?_
 .refine go<|fj _ ((hc.JR 8 4).ah x2 Yt) U<|dt (NP (a:=r.s0) (b:=r.s1)) (λw3 hb x3=>?_) λw3 hb x3=>?_
  .have hok:eB r=true:=by unfold eB;rw[ha,hb];rfl
   refine cR Xm (λhi=>?_) λhi=>?_
   .exact YT
   .exact YT
  .have hok:eB r=false:=by unfold eB;rw[ha,hb];rfl
   exact aQ _ U ⟨by unfold uH;rw[hok];rfl,h1.ae.trans (x2.trans x3)⟩
 .have hok:eB r=false:=by unfold eB;rw[ha];rfl
  exact aQ _ U ⟨by unfold uH;rw[hok];rfl,h1.ae.trans x2⟩
theorem HK{a:Q}{v:Int}(h:mG a=true)(u:0<=v/\v<=1073741824):ny a v=(v*a.n/a.d,Ep (v*a.n) a.d,0):=by
 obtain⟨h1,_⟩:=eJ.1 h;have hd:=(cV.1 h1).1;unfold ny;rw[h1,asp U,aso Y,Int.neg_mul,abh Y,Int.mul_comm a.n v]
theorem FW{r:Reach}{v:Int}(h:eB r=true)(u:0<=v/\v<=1073741824):0<=(gM r v).lo/\(gM r v).lo<=v/\0<=(gM r v).hi/\(gM r v).hi<=v:=by
 obtain⟨h1,J⟩:=fJ.1 h;obtain⟨A,z,_⟩:=gy.1 J;have s0:=rB (v:=v) A u.1;have s1:=rB (v:=v) z u.1;unfold gM;split
 .dsimp only;omega
 .dsimp only;omega
theorem Md{r:Reach}{v:Int}(W:eB r=true)(V:0<=v/\v<=1073741824):aA 211 #[r.v,iv v] w ((gM r v).v):=by
 apply aF func211 Z;obtain⟨he,hs⟩:=fJ.1 W;obtain⟨M,J,-⟩:=gy.1 hs;have p0:=rB (v:=v) M V.1;have p1:=rB (v:=v) J V.1;refine box λg w1 h1=>?_;refine alloc λq w2 O=>?_;have e2:=O.au;have z1:=h1.ae.size;have b2:=h1.aS.ae O.ae;have A:=h1.ae.trans O.ae;refine cE (λh0=>?_) λh0=>?_
 .apply hY [iv 0,iv 0] Z;refine fg O.aS λw3 a1 k3 z3=>?_;apply ret;apply da _ (bU (.aS a1) U);exact⟨by unfold gM;rw[asp h0];rfl,A.ag k3 λb hb _ e=>Y⟩
 have hc:=bF.aS b2;refine go ?_;refine qW 0 U Yd ?_;refine fj _ (hc.JR 8 2) U ?_;refine bW (FU (a:=r.s0) (n:=v)) λw3 x3=>?_;rw[HK M V];refine go ?_;refine qW 1 U Yd ?_;refine fj _ ((hc.JR 10 2).ah x3 Yt) U ?_;refine bW (FU (a:=r.s1) (n:=v)) λw4 x4=>?_;rw[HK J V];have z:=x3.trans x4;have b4:=b2.ae z;refine bC ?_;refine bC ?_;refine ld _ (b4.ai U) ?_;refine eD (by dsimp only;omega) ?_;refine bC ?_;refine bC ?_;refine ld (iv r.dN.hi) (b4.ai U) ?_;refine eD (by dsimp only;omega) ?_;refine hY [iv (min v (r.dN.lo+v*r.s0.n/r.s0.d)),iv (min v (r.dN.hi+Ep (v*r.s1.n) r.s1.d))] Z ?_;refine fg (O.aS.ae z) λw5 X k5 z5=>?_;refine ret ?_;refine da _ (bU (.aS X) U) ?_;exact⟨by unfold gM;rw[aso h0];rfl,(A.trans z).ag k5 λb hb _ e=>Y⟩
end
section
variable {w:World}
theorem Qe{r:Reach}{v:Int}:aA 128 #[r.v,iv v] w (.tuple #[iv (if uH r v=0 then v-(gM r v).hi else 0),iv (uH r v)]):=by
 refine aF func128 Z<|box λg V h1=>fj _ (.aS h1.aS) U<|bW (HJ (r:=r) (n:=v)) λO z=>?_;refine cN (λh=>?_) λh=>?_
 .exact tK (iv 0) (iv (uH r v)) U rfl ⟨by rw[aso h],h1.ae.trans z⟩
 .have h':=sV.1 h;have W:=FW h'.1 h'.2;refine fj _ (.aS (h1.aS.ae z)) U<|bW (Md (r:=r) (v:=v) h'.1 h'.2) λM A=>?_;apply ZK _ U;refine go ?_;exact tK (iv (v-(gM r v).hi)) (iv 0) U rfl ⟨by rw[asp h,h],(h1.ae.trans z).trans A⟩
end
section
open Go.Sort
def uI(a b:Int):Int:=if a<b then -1 else if b<a then 1 else 0
theorem Er(x y:Int)(W:World):Calls prog 93 #[.int .i64 x,.int .i64 y] W λe w'=>e=.returned (.int .i64 (uI x y))/\w'=W:=by
 go_enter func93,Tryz.ntmps93
 go_wp2
 .go_ret
  refine⟨congrArg Ending.returned ?_,rfl⟩
  have h:x<y:=by assumption
  show Value.int .i64 (-1)=.int .i64 (uI x y)
  unfold uI;rw[asp h]
 .go_ret
  refine⟨congrArg Ending.returned ?_,rfl⟩
  have h:y<x:=by assumption
  show Value.int .i64 1=.int .i64 (uI x y)
  unfold uI;rw[aso Y,asp h]
 .go_ret
  refine⟨congrArg Ending.returned ?_,rfl⟩
  have h:y<=x:=by assumption
  have h':x<=y:=by assumption
  show Value.int .i64 0=.int .i64 (uI x y)
  unfold uI;rw[aso Y,aso Y]
theorem aqr(a b r : Int)(hr1 : a ≠ 0 -> r = a)(hr2 : a = 0 -> r = b)(g : Nat)(W : World)(h0 : W.cell? ⟨g, 0, none⟩ = some (.int .i64 a))(h1 : W.cell? ⟨g, 1, none⟩ = some (.int .i64 b)) : Calls prog 92 #[.slice (some ⟨g, 0, none⟩) 2 2] W λ e w' => e = .returned (.int .i64 r) /\ w' = W := by
  go_enter func92, Tryz.ntmps92
  go_wp2
  go_loop [8] (λ i => ∃ k : Nat, k <= 2 /\ i = .int .i64 k /\ (1 <= k -> a = 0) /\ (2 <= k -> b = 0)) λ i => 2 - (Go.RowKit.intOf i).toNat
  case atStart => exact ⟨0, Y, rfl, Y, Y⟩
  case round =>
    obtain ⟨k, hk, rfl, ha, hb⟩ := hrel
    have hk3 : k = 0 \/ k = 1 \/ k = 2 := Y
    rcases hk3 with rfl | rfl | rfl
    · skip
      go_wp2
      all_goals first
        | (have h : a ≠ 0 := (by have := ‹(a != 0) = true›; simpa using this); go_ret; refine ⟨congrArg Ending.returned ?_, rfl⟩; first | rfl | (show Value.int .i64 a = .int .i64 r; rw [hr1 h]))
        | (have h : a = 0 := by first | assumption | (have := ‹(a != 0) = false›; simpa using this)
           go_round
           case rel => exact ⟨1, Y, rfl, λ _ => h, Y⟩
           case measure => simp [Go.RowKit.intOf])
    · have ha := ha Y
      go_wp2
      all_goals first
        | (have h : b ≠ 0 := (by have := ‹(b != 0) = true›; simpa using this); go_ret; refine ⟨congrArg Ending.returned ?_, rfl⟩; first | rfl | (show Value.int .i64 b = .int .i64 r; rw [hr2 ha]))
        | (have h : b = 0 := by first | assumption | (have := ‹(b != 0) = false›; simpa using this)
           go_round
           case rel => exact ⟨2, Y, rfl, λ _ => ha, λ _ => h⟩
           case measure => simp [Go.RowKit.intOf])
    · have ha := ha Y
      have hb := hb Y
      go_wp2
      go_ret
      refine ⟨congrArg Ending.returned ?_, rfl⟩
      have e := (hr2 ha).trans hb
      first | rfl | (show Value.int .i64 0 = .int .i64 r; rw [e]) | (show Value.int .i64 0 = .int .i64 b; rw [hb])
def uJ(x y:Int×Int):Int:=if uI y.1 x.1≠0 then uI y.1 x.1 else uI x.2 y.2
set_option maxRecDepth 100000 in
set_option maxHeartbeats 1000000 in
theorem Xn(x y:Int×Int)(W:World):Calls prog 111 #[.agg #[.int .i64 x.1,.int .i64 x.2],.agg #[.int .i64 y.1,.int .i64 y.2]] W λe w'=>e=.returned (.int .i64 (uJ x y))/\∃q os',w'=grow (W.drewN q) os':=by
 obtain⟨r,hr⟩:∃r,r=uJ x y:=⟨_,rfl⟩
 obtain⟨c1,hc1⟩:∃c,c=uI y.1 x.1:=⟨_,rfl⟩
 obtain⟨c2,hc2⟩:∃c,c=uI x.2 y.2:=⟨_,rfl⟩
 have hr1:c1≠0->r=c1:=λh=>by rw[hr,hc1];unfold uJ;rw[asp (by rw[<-hc1];exact h)]
 have hr2:c1=0->r=c2:=λh=>by rw[hr,hc2];unfold uJ;rw[aso (by rw[<-hc1];simp[h])]
 have k1:=λW=>Er y.1 x.1 W
 have k2:=λW=>Er x.2 y.2 W
 rw[<-hc1] at k1
 rw[<-hc2] at k2
 rw[<-hr]
 clear hr hc1 hc2
 go_enter func111,Tryz.ntmps111
 go_wp2
 have hm:Tryz.prog.follows .mixedOrders=true:=Z
 obtain⟨W1,hW1⟩:∃W1,W1=(W.alloc (Obj.cells #[Value.int IntKind.i64 x.fst,Value.int IntKind.i64 x.snd] 248)).alloc (Obj.cells #[Value.int IntKind.i64 y.fst,Value.int IntKind.i64 y.snd] 248):=⟨_,rfl⟩
 rw[<-hW1]
 have B0:aP W1 W.heap.size 248 [.int .i64 x.1,.int .i64 x.2]:=by rw[hW1];exact(aP.new W 248 [.int .i64 x.1,.int .i64 x.2]).ae (aj.alloc _ _ _)
 have B1:aP W1 (W.heap.size+1) 248 [.int .i64 y.1,.int .i64 y.2]:=by
  rw[hW1]
  have:=aP.new (W.alloc (Obj.cells #[Value.int IntKind.i64 x.fst,Value.int IntKind.i64 x.snd] 248)) 248 [.int .i64 y.1,.int .i64 y.2]
  rwa [show(W.alloc (Obj.cells #[Value.int IntKind.i64 x.fst,Value.int IntKind.i64 x.snd] 248)).heap.size=W.heap.size+1 from at5 ..] at this
 have hsz1:W1.heap.size=W.heap.size+2:=by
  rw[hW1]
  exact TU
 have hrel:∀o,∃q os',({W1 with drawn:=W1.drawn+1}:World).alloc o=grow (W.drewN q) os':=λo=>⟨1,#[(Obj.cells #[Value.int IntKind.i64 x.fst,Value.int IntKind.i64 x.snd] 248),(Obj.cells #[Value.int IntKind.i64 y.fst,Value.int IntKind.i64 y.snd] 248),o],by
  rw[hW1]
  show({heap:=((W.heap.push _).push _).push o,tape:=W.tape,drawn:=W.drawn+1,os:=W.os,output:=W.output}:World)={heap:=W.heap++_,tape:=W.tape,drawn:=W.drawn+1,os:=W.os,output:=W.output}
  congr 1⟩
 apply auU 10 hm Z
 simp only[atF,atg,auB,at3]
 obtain⟨W2,hW2⟩:∃W2,W2=({W1 with drawn:=W1.drawn+1}:World):=⟨_,rfl⟩
 rw[<-hW2]
 have f0:W2.cell? ⟨W.heap.size,0,none⟩=some (.int .i64 x.1):=by rw[hW2];exact B0.ai rfl
 have f1:W2.cell? ⟨W.heap.size,1,none⟩=some (.int .i64 x.2):=by rw[hW2];exact B0.ai rfl
 have f2:W2.cell? ⟨W.heap.size+1,0,none⟩=some (.int .i64 y.1):=by rw[hW2];exact B1.ai rfl
 have f3:W2.cell? ⟨W.heap.size+1,1,none⟩=some (.int .i64 y.2):=by rw[hW2];exact B1.ai rfl
 have hsz:W2.heap.size=W.heap.size+2:=by rw[hW2];exact hsz1
 rw[<-hW2] at hrel
 clear hW2 B0 B1 hsz1 hW1
 clear W1
 iterate 4 still_step
 still_call (k1 _)
 iterate 4 still_step
 still_call (k2 _)
 apply av7
 have hn:=aP.new W2 3 [.int .i64 c1,.int .i64 c2]
 have k3:=aqr c1 c2 r hr1 hr2 W2.heap.size (W2.alloc (Obj.cells #[.int .i64 c1,.int .i64 c2] 3)) (hn.ai rfl) (hn.ai rfl)
 have hrel:=hrel (Obj.cells #[.int .i64 c1,.int .i64 c2] 3)
 clear hn hr1 hr2 f0 f1 f2 f3 hsz k1 k2
 go_wp2_with (go_at_call 92;refine k3.mono ?_;rintro e w' ⟨rfl,rfl⟩)
 clear k3
 go_wp2
 go_ret
 exact⟨rfl,hrel⟩
end
end Go.Proofs.YtakcjkbnfegidaaGreat
namespace Go.Proofs
open Go.Shelf Go.RowKit Go.Lib Go.Sort
shelf_lay_g SlLaysF0.n6 Slsf 6 at Tryz 112 as Tryz.gsort
#print axioms Tryz.gsort
end Go.Proofs
namespace Go.Proofs.YtakcjkbnfegidaaGreat
open Go Go.RowKit Tryz
variable{c i u:Int}
def xP(c i j c' i' j':Int):Prop:=(j<=c/2/\j'<=c'/2/\(j<j'\/(j=j'/\(c'<c\/(c=c'/\i<i')))))\/(j<=c/2/\c'/2<j')\/(c/2<j/\c'/2<j'/\(c'-j'<c-j\/(c-j=c'-j'/\(c<c'\/(c=c'/\i'<i)))))
theorem Me{j:Int}(h:j<u):xP c i j c i u:=by unfold xP;omega
theorem sW{j c' A z J i2:Int}(h:xP c i j c' A z)(k:xP c' A z J i2 u):xP c i j J i2 u:=by unfold xP at*;omega
theorem abi{j c' A z J i2:Int}(h:¬xP c' A z c i j)(k:xP c' A z J i2 u):xP c i j J i2 u:=by unfold xP at*;omega
theorem UN{j c' z:Int}(h:¬xP c i j c' z u):xP c' z u c i j\/(c=c'/\i=z/\j=u):=by unfold xP at*;omega
def bL(l:aX)(i:Nat):Int:=l.getD i 0
def jW(f:Nat->Int):Nat->Int
 |0=>0
 |n+1=>jW f n+f n
theorem pW{f g:Nat->Int}:∀{n:Nat},(∀i,i<n->f i=g i)->jW f n=jW g n
 |0,_=>rfl
 |n+1,h=>by unfold jW;rw[pW λi hi=>h i Y,h n Y]
theorem vO{f g:Nat->Int}:∀{n:Nat},(∀i,i<n->f i<=g i)->jW f n<=jW g n
 |0,_=>asO _
 |n+1,h=>by unfold jW;have:=vO (n:=n) λi hi=>h i Y;have:=h n Y;omega
theorem FX{f g:Nat->Int}:∀{n:Nat},(∀i,i<n->f i<=g i)->(∃i,i<n/\f i<g i)->jW f n<jW g n
 |0,_,⟨i,hi,_⟩=>Y
 |n+1,h,⟨i,hi,u⟩=>by
  unfold jW
  have h1:=vO (n:=n) λi hi=>h i Y
  have z:=h n Y
  by_cases e:i=n
  .subst e;omega
  .have:=FX (n:=n) (λi hi=>h i Y) ⟨i,Y,u⟩
   omega
theorem xQ:∀{n:Nat},jW (λ_=>0) n=0
 |0=>rfl
 |n+1=>by unfold jW;rw[xQ];rfl
theorem Qf{f:Nat->Int}{B:Int}:∀{n:Nat},(∀i,i<n->0<=f i/\f i<=B)->0<=jW f n/\jW f n<=n*B
 |0,_=>by unfold jW;omega
 |n+1,h=>by
  unfold jW
  have h1:=Qf (n:=n) λi hi=>h i Y
  have u:=h n Y
  have:((n+1:Nat):Int)*B=n*B+B:=by rw[asA,atX];simp
  omega
structure Awd (l:aX) (E:Int) (a:Nat->Int):Prop where
 b:∀i,i<l.length->0<=a i/\a i<=bL l i
 s:jW a l.length=E
 d:∀i k,i<l.length->k<l.length->1<=a i->a k<bL l k->xP (bL l i) i (a i) (bL l k) k (a k+1)
structure Mk where
 late:Bool
 level:Int
 gV:Int
 index:Int
deriving DecidableEq
def Mk.none:Mk:=⟨false,0,0,0⟩
def Mk.j(m:Mk):Int:=if m.late then m.gV-m.level+1 else m.level
def pq(m:Mk)(c i:Int):Prop:=if m.late then c<m.gV\/(c=m.gV/\m.index<=i) else m.gV<c\/(c=m.gV/\i<=m.index)
instance (m:Mk) (c i:Int):Decidable (pq m c i):=by unfold pq;infer_instance
def dC(m:Mk)(c i:Int):Int:=if m=Mk.none then 0 else if m.late then(if pq m c i then c-min (c-c/2) (m.level-1) else c-min (c-c/2) m.level) else(if pq m c i then min (c/2) m.level else min (c/2) (m.level-1))
structure Mk.Lit (m:Mk):Prop where
 lo:1<=m.level
 hi:m.level<=if m.late then m.gV-m.gV/2 else m.gV/2
 c0:0<=m.gV
theorem Mk.Lit.ne{m:Mk}(h:m.Lit):m≠Mk.none:=λe=>by have:=h.lo;rw[e] at this;exact absurd this Yd
section
variable {m m':Mk} {c i L c0 i0:Int}
theorem Bw(h:(⟨false,L,c0,i0⟩:Mk).Lit)(u:c0<c\/(c=c0/\i<=i0)):dC ⟨false,L,c0,i0⟩ c i=min (c/2) L:=by
 unfold dC;rw[aso h.ne,aso (by simp),asp (show pq ⟨false,L,c0,i0⟩ c i from u)]
theorem Kp(h:(⟨false,L,c0,i0⟩:Mk).Lit)(u:¬(c0<c\/(c=c0/\i<=i0))):dC ⟨false,L,c0,i0⟩ c i=min (c/2) (L-1):=by
 unfold dC;rw[aso h.ne,aso (by simp),aso (show¬pq ⟨false,L,c0,i0⟩ c i from u)]
theorem FY(h:(⟨true,L,c0,i0⟩:Mk).Lit)(u:c<c0\/(c=c0/\i0<=i)):dC ⟨true,L,c0,i0⟩ c i=c-min (c-c/2) (L-1):=by
 unfold dC;rw[aso h.ne,asp U,asp (show pq ⟨true,L,c0,i0⟩ c i from u)]
theorem Kq(h:(⟨true,L,c0,i0⟩:Mk).Lit)(u:¬(c<c0\/(c=c0/\i0<=i))):dC ⟨true,L,c0,i0⟩ c i=c-min (c-c/2) L:=by
 unfold dC;rw[aso h.ne,asp U,aso (show¬pq ⟨true,L,c0,i0⟩ c i from u)]
theorem Qg(h:m.Lit)(z:0<=c):0<=dC m c i/\dC m c i<=c:=by
 obtain⟨l,L,c0,i0⟩:=m;have h1:1<=L:=h.lo;cases l with
 |false=>
  by_cases u:c0<c\/(c=c0/\i<=i0)
  .rw[Bw h u];omega
  .rw[Kp h u];omega
 |true=>
  by_cases u:c<c0\/(c=c0/\i0<=i)
  .rw[FY h u];omega
  .rw[Kq h u];omega
theorem Kr(h:m.Lit)(_hc:0<=c)(h1:1<=dC m c i):¬xP m.gV m.index m.j c i (dC m c i):=by
 obtain⟨l,L,c0,i0⟩:=m;have l1:=h.lo;have l2:=h.hi;cases l with
 |false=>
  have l2:L<=c0/2:=l2;show¬xP c0 i0 L c i _;exact X5
 |true=>
  have l2:L<=c0-c0/2:=l2;show¬xP c0 i0 (c0-L+1) c i _;exact X6
theorem Mf(h:m.Lit)(_hc:0<=c)(h1:dC m c i<c):xP m.gV m.index m.j c i (dC m c i+1):=by
 obtain⟨l,L,c0,i0⟩:=m;have l1:1<=L:=h.lo;have l2:=h.hi;cases l with
 |false=>
  have l2:L<=c0/2:=l2;show xP c0 i0 L c i _;exact X5
 |true=>
  show xP c0 i0 (c0-L+1) c i _;exact X6
theorem Qh(h:m.Lit):dC m m.gV m.index=m.j:=by
 obtain⟨l,L,c0,i0⟩:=m;have l1:=h.lo;have l2:=h.hi;cases l with
 |false=>
  have l2:L<=c0/2:=l2;show dC _ c0 i0=L;rw[Bw h (.inr ⟨U,asO _⟩)];omega
 |true=>
  have l2:L<=c0-c0/2:=l2;show dC _ c0 i0=c0-L+1;rw[FY h (.inr ⟨U,asO _⟩)];omega
theorem Qi(h:m.Lit)(h':m'.Lit)(hk:xP m.gV m.index m.j m'.gV m'.index m'.j)(u:0<=c):dC m c i<=dC m' c i:=by
 by_cases q:dC m c i<=dC m' c i
 .exact q
 exfalso;have b:=Qg (i:=i) h u;have A:=Qg (i:=i) h' u;have h1:=Kr (i:=i) h u Y;have z:=Mf (i:=i) h' u Y;by_cases e:dC m' c i+1=dC m c i
 .rw[e] at z;exact h1 (sW hk z)
 .exact h1 (sW hk (sW z (Me Y)))
theorem Mk.amF(h:m.Lit)(h':m'.Lit)(J:m.gV=m'.gV)(A:m.index=m'.index)(z:m.j=m'.j):m=m':=by
 have W:=h.lo;have a2:=h.hi;have V:=h'.lo;have O:=h'.hi;obtain⟨l,v,c,x⟩:=m;obtain⟨u,v',c',M⟩:=m';simp only at*;subst J;subst A;unfold Mk.j at z;cases l<;>cases u<;>simp only[auM,avy,aws] at* <;>first
  |(obtain rfl:v=v':=Y;rfl)
  |(exfalso;omega)
end
structure Mk.Of (m:Mk) (l:aX):Prop where
 lit:m.Lit
 ix:0<=m.index/\m.index<l.length
 cl:m.gV=bL l m.index.toNat
section
variable {l:List Int} {m m':Mk} {E:Int}
def DH(m:Mk)(l:aX):Int:=jW (λi=>dC m (bL l i) i) l.length
theorem Mk.Of.PA(h:m.Of l)(u:∀i,i<l.length->0<=bL l i)(hs:DH m l=E):Awd l E (λi=>dC m (bL l i) i) where
 b i hi:=Qg h.lit (u i hi)
 s:=hs
 d i k hi hk h1 z:=abi (Kr h.lit (u i hi) h1) (Mf h.lit (u k hk) z)
theorem Mk.Of.uniq(h:m.Of l)(h':m'.Of l)(u:∀i,i<l.length->0<=bL l i)(hs:DH m l=DH m' l):m=m':=by
 have key:∀{m m':Mk},m.Of l->m'.Of l->xP m.gV m.index m.j m'.gV m'.index m'.j->DH m l<DH m' l:=by
  intro m m' h h' hk;refine FX (λi hi=>Qi h.lit h'.lit hk (u i hi)) ⟨m'.index.toNat,by have:=h'.ix;omega,?_⟩;have e:((m'.index.toNat:Nat):Int)=m'.index:=by have:=h'.ix;omega
  show dC m (bL l m'.index.toNat) (m'.index.toNat:Nat)<dC m' (bL l m'.index.toNat) (m'.index.toNat:Nat);rw[e,<-h'.cl,Qh h'.lit];by_cases q:dC m m'.gV m'.index<m'.j
  .exact q
  exfalso;have M:1<=m'.j:=by have V:=h'.lit.lo;have a2:=h'.lit.hi;have a3:=h'.lit.c0;unfold Mk.j;cases u:m'.late<;>simp only[u,auM,avy,aws] at* <;>omega
  have h1:=Kr (c:=m'.gV) (i:=m'.index) h.lit h'.lit.c0 Y;by_cases e:m'.j=dC m m'.gV m'.index
  .rw[<-e] at h1;exact h1 hk
  .exact h1 (sW hk (Me Y))
 by_cases h1:xP m.gV m.index m.j m'.gV m'.index m'.j
 .exact Yg
 .rcases UN h1 with O|⟨J,A,z⟩
  .exact Yg
  .exact Mk.amF h.lit h'.lit J A z
end
def Dz(l:aX):List (Int×Int):=(List.range l.length).map λi=>(bL l i,(i:Int))
def Hj(x y:Int×Int):Prop:=y.1<x.1\/(x.1=y.1/\x.2<y.2)
theorem HL(f:Nat->Int):∀n,jW f n=((List.range n).map f).sum
 |0=>rfl
 |n+1=>by rw[atn,asK,atS,<-HL f n];show jW f n+f n=jW f n+(f n+0);omega
theorem Mg{l:aX}(f:Int->Int->Int):jW (λi=>f (bL l i) i) l.length=((Dz l).map λx=>f x.1 x.2).sum:=by
 rw[HL];unfold Dz;rw[auo];rfl
theorem rC{α:Type}{f:α->Int}{s t:List α}(h:s.Perm t):(s.map f).sum=(t.map f).sum:=by
 induction h with
 |nil=>rfl
 |cons x _ u=>simp only[asQ,atu,u]
 |swap x y l=>simp only[asQ,atu];omega
 |trans _ _ h1 z=>exact h1.trans z
theorem iU{α:Type}{f g:α->Int}:∀{s:List α},(s.map λx=>f x+g x).sum=(s.map f).sum+(s.map g).sum
 |[]=>rfl
 |a::s=>by simp only[asQ,atu,iU (s:=s)];omega
theorem du{α:Type}{f g:α->Int}:∀{s:List α},(∀x∈s,f x=g x)->(s.map f).sum=(s.map g).sum
 |[],_=>rfl
 |a::s,h=>by simp only[asQ,atu];rw[du λx u=>h x (ast _ u),h a ass]
theorem pX{α:Type}{f g:α->Int}:∀{s:List α},(∀x∈s,f x<=g x)->(s.map f).sum<=(s.map g).sum
 |[],_=>asO _
 |a::s,h=>by simp only[asQ,atu];have:=pX (s:=s) λx u=>h x (ast _ u);have:=h a ass;omega
theorem mc{α:Type}:∀{s:List α},(s.map λ_=>(1:Int)).sum=s.length
 |[]=>rfl
 |a::s=>by simp only[asQ,atu,mc (s:=s),as2];omega
theorem ki{α:Type}:∀{s:List α},(s.map λ_=>(0:Int)).sum=0
 |[]=>rfl
 |a::s=>by simp only[asQ,atu,ki (s:=s)];omega
theorem iV{α:Type}{p:α->Bool}{f:α->Int}(h:∀x,p x=false->f x=0):∀{s:List α},(s.map f).sum=((s.filter p).map f).sum
 |[]=>rfl
 |a::s=>by
  rw[atT]
  cases u:p a with
  |true=>simp only[auM,asQ,atu,iV h (s:=s)]
  |false=>simp only[avy,aws,asQ,atu,iV h (s:=s),h a u];omega
def zj(s:List (Int×Int))(L:Int):Int:=(s.map λx=>min (x.1/2) L).sum
def uK(s:List (Int×Int))(L:Int):Int:=(s.map λx=>max 0 (x.1-x.1/2-L)).sum
def me(s:List (Int×Int)):Int:=(s.map λx=>x.1/2).sum
def Qj(s:List (Int×Int)):Int:=(s.map λx=>x.1).sum
section
variable {l:List Int} {s:List (Int×Int)} {E L:Int}
theorem Qk{L':Int}(h:L<=L'):zj s L<=zj s L':=pX λx _=>Y
theorem Ql{L':Int}(h:L<=L'):uK s L'<=uK s L:=pX λx _=>Y
theorem Mh(hs:s.Perm (Dz l)){x:Int×Int}(u:x∈s):0<=x.2/\x.2<l.length/\x.1=bL l x.2.toNat:=by
 have:=hs.mem_iff.1 u;unfold Dz at this;obtain⟨i,hi,rfl⟩:=asS.1 this;have:=as0.1 hi;exact⟨by show(0:Int)<=i;omega,by show(i:Int)<_;omega,U⟩
theorem Es(hs:s.Perm (Dz l))(m:Mk):DH m l=(s.map λx=>dC m x.1 x.2).sum:=by
 unfold DH;rw[Mg (f:=λc i=>dC m c i)];exact(rC hs).symm
theorem Ks(hs:s.Perm (Dz l))(hp:s.Pairwise Hj)(h0:∀x∈s,0<=x.1)(hL:1<=L)(h1:E<=zj s L){p:Nat}(aa:(p:Int)=E-zj s (L-1)-1):∃x,s[p]? =some x/\(⟨false,L,x.1,x.2⟩:Mk).Of l/\DH ⟨false,L,x.1,x.2⟩ l=E:=by
 have step:∀t:List (Int×Int),zj t L=zj t (L-1)+(t.map λx=>if L<=x.1/2 then(1:Int) else 0).sum:=λt=>by unfold zj;rw[<-iU];refine du λx _=>?_;split<;>omega
 have u:∀t:List (Int×Int),(t.map λx=>if L<=x.1/2 then(1:Int) else 0).sum<=t.length:=λt=>by rw[<-mc];refine pX λx _=>?_;split<;>omega
 have hlen:p<s.length:=by have:=step s;have:=u s;omega
 obtain⟨x,O⟩:∃x,s[p]? =some x:=⟨s[p],asw hlen⟩;have A:s=s.take p++x::s.drop (p+1):=by
  have:x=s[p]:=by rw[asw hlen] at O;exact(awx O).symm
  rw[this,List.getElem_cons_drop,atk]
 obtain⟨s1,V⟩:∃s1,s1=s.take p:=⟨_,U⟩;obtain⟨s2,a7⟩:∃s2,s2=s.drop (p+1):=⟨_,U⟩;have l1:s1.length=p:=by rw[V,asF];omega
 rw[<-V,<-a7] at A;rw[A] at hp;obtain⟨_,W,a8⟩:=atH.1 hp;rw[atE] at W;have b1:∀y∈s1,Hj y x:=λy Z=>a8 y Z x ass;have b2:=W.1;have a1:L<=x.1/2:=by
  by_cases q:L<=x.1/2
  .exact q
  exfalso;have e:=step s;rw[A] at e;simp only[asK,asQ,atS,atu] at e;have z2:(s2.map λx=>if L<=x.1/2 then(1:Int) else 0).sum=0:=by
   rw[du (g:=λ_=>(0:Int)) λz X=>by have:=b2 z X;unfold Hj at this;exact aso Y]
   exact ki
  rw[z2,aso q] at e;have:=u s1;rw[<-A] at e;omega
 have M:=Mh hs (x:=x) (asq O);have a6:=h0 x (asq O);have lit:(⟨false,L,x.1,x.2⟩:Mk).Lit:=⟨hL,a1,a6⟩;refine⟨x,O,⟨lit,⟨M.1,M.2.1⟩,M.2.2⟩,?_⟩;rw[Es hs];have o1:∀y∈s1,dC ⟨false,L,x.1,x.2⟩ y.1 y.2=min (y.1/2) (L-1)+1:=λy Z=>by have:=b1 y Z;unfold Hj at this;rw[Bw lit Y];omega
 have o2:∀z∈s2,dC ⟨false,L,x.1,x.2⟩ z.1 z.2=min (z.1/2) (L-1):=λz X=>by have:=b2 z X;unfold Hj at this;rw[Kp lit Y]
 have ox:dC ⟨false,L,x.1,x.2⟩ x.1 x.2=min (x.1/2) (L-1)+1:=by rw[Bw lit (.inr ⟨U,asO _⟩)];omega
 have ce:zj s (L-1)=(s1.map λx=>min (x.1/2) (L-1)).sum+(min (x.1/2) (L-1)+(s2.map λx=>min (x.1/2) (L-1)).sum):=by unfold zj;rw[A];simp only[asK,asQ,atS,atu]
 rw[show(s.map λJ=>dC ⟨false,L,x.1,x.2⟩ J.1 J.2)=((s1++x::s2).map λJ=>dC ⟨false,L,x.1,x.2⟩ J.1 J.2) from by rw[<-A]];simp only[asK,asQ,atS,atu];rw[du o1,du o2,ox,iU,mc,l1];omega
theorem NQ(hs:s.Perm (Dz l))(hp:s.Pairwise Hj)(h0:∀x∈s,0<=x.1)(hL:1<=L)(h1:E<=me s+uK s (L-1)){p:Nat}(ab:(p:Int)=E-me s-uK s L-1):∃x,(s.reverse.filter λx=>decide (L<=x.1-x.1/2))[p]? =some x/\(⟨true,L,x.1,x.2⟩:Mk).Of l/\DH ⟨true,L,x.1,x.2⟩ l=E:=by
 obtain⟨r,hr⟩:∃r,r=s.reverse.filter λx=>decide (L<=x.1-x.1/2):=⟨_,U⟩;rw[<-hr];have A:∀y,y∈r↔y∈s/\L<=y.1-y.1/2:=λy=>by rw[hr,at6,avK,asy]
 have aa:uK s (L-1)=uK s L+r.length:=by
  have e1:uK s (L-1)=uK s L+(s.map λx=>if L<=x.1-x.1/2 then(1:Int) else 0).sum:=by unfold uK;rw[<-iU];refine du λx _=>?_;split<;>omega
  rw[e1,<-rC (awm s),iV (p:=λx=>decide (L<=x.1-x.1/2)) (λx u=>by rw[asZ] at u;rw[aso u]),<-hr];have:(r.map λx=>if L<=x.1-x.1/2 then(1:Int) else 0).sum=r.length:=by rw[<-mc];refine du λx u=>?_;rw[asp ((A x).1 u).2]
  omega
 have hlen:p<r.length:=Y;obtain⟨x,u⟩:∃x,r[p]? =some x:=⟨r[p],asw hlen⟩;have M:r=r.take p++x::r.drop (p+1):=by
  have:x=r[p]:=by rw[asw hlen] at u;exact(awx u).symm
  rw[this,List.getElem_cons_drop,atk]
 obtain⟨r1,a7⟩:∃s1,s1=r.take p:=⟨_,U⟩;obtain⟨r2,a6⟩:∃s2,s2=r.drop (p+1):=⟨_,U⟩;have l1:r1.length=p:=Yg;rw[<-a7,<-a6] at M;have W:r.Pairwise λx y=>Hj y x:=Yg;rw[M] at W;obtain⟨_,X,a8⟩:=atH.1 W;rw[atE] at X;have b1:∀y∈r1,Hj x y:=λy V=>a8 y V x ass;have b2:=X.1;have J:=(A x).1 (asq u);have O:=Mh hs J.1;have a1:=h0 x J.1;have lit:(⟨true,L,x.1,x.2⟩:Mk).Lit:=⟨hL,J.2,a1⟩;refine⟨x,u,⟨lit,⟨O.1,O.2.1⟩,O.2.2⟩,?_⟩;rw[Es hs];have e2:(s.map λy=>dC ⟨true,L,x.1,x.2⟩ y.1 y.2).sum=(me s+uK s L)+(s.map λy=>if pq ⟨true,L,x.1,x.2⟩ y.1 y.2/\L<=y.1-y.1/2 then(1:Int) else 0).sum:=by
  unfold me uK;rw[<-iU,<-iU];refine du λy V=>?_;have:=h0 y V;by_cases hu:pq ⟨true,L,x.1,x.2⟩ y.1 y.2
  .rw[FY lit hu];by_cases Z:L<=y.1-y.1/2
   .rw[asp ⟨hu,Z⟩];omega
   .rw[aso λh=>Z h.2];omega
  .rw[Kq lit hu,aso λh=>hu h.1];omega
 rw[e2,<-rC (awm s),iV (p:=λx=>decide (L<=x.1-x.1/2)) (λx u=>by rw[asZ] at u;rw[aso λh=>u h.2]),<-hr];have o1:∀y∈r1,(if pq ⟨true,L,x.1,x.2⟩ y.1 y.2/\L<=y.1-y.1/2 then(1:Int) else 0)=1:=λy V=>by have hb:=b1 y V;have hm:=(A y).1 (by rw[M];exact atO _ V);unfold Hj at hb;exact asp ⟨show y.1<x.1\/(y.1=x.1/\x.2<=y.2) from Y,hm.2⟩
 have o2:∀z∈r2,(if pq ⟨true,L,x.1,x.2⟩ z.1 z.2/\L<=z.1-z.1/2 then(1:Int) else 0)=0:=λz hz=>by have hb:=b2 z hz;unfold Hj at hb;refine aso λh=>?_;have:z.1<x.1\/(z.1=x.1/\x.2<=z.2):=h.1;omega
 have ox:(if pq ⟨true,L,x.1,x.2⟩ x.1 x.2/\L<=x.1-x.1/2 then(1:Int) else 0)=1:=by exact asp ⟨.inr ⟨U,asO _⟩,J.2⟩
 rw[show(r.map λy=>if pq ⟨true,L,x.1,x.2⟩ y.1 y.2/\L<=y.1-y.1/2 then(1:Int) else 0)=((r1++x::r2).map λy=>if pq ⟨true,L,x.1,x.2⟩ y.1 y.2/\L<=y.1-y.1/2 then(1:Int) else 0) from by rw[<-M]];simp only[asK,asQ,atS,atu];rw[du o1,du o2,ox,mc,ki,l1];omega
end
end Go.Proofs.YtakcjkbnfegidaaGreat
namespace Go.Proofs.YtakcjkbnfegidaaGreat
open Go Go.Sort Go.Shelf Tryz
abbrev fK(x:Int×Int):aW:=[iv x.1,iv x.2]
theorem BA(s:List (Int×Int)):(s.flatMap fK).length=s.length*2:=by
 induction s with
 |nil=>rfl
 |cons a s u=>rw[ata,asu,u,as2];show 2+s.length*2=(s.length+1)*2;omega
theorem FZ:∀{s:List (Int×Int)} {j:Nat} {x:Int×Int} (m:Nat),s[j]? =some x->m<2->(s.flatMap fK)[j*2+m]? =(fK x)[m]?
 |[],j,x,m,h,_=>by simp at h
 |a::s,0,x,m,h,hm=>by
  simp at h;subst h
  rw[ata,avW,as9,asR (by show m<2;exact hm)]
 |a::s,j+1,x,m,h,hm=>by
  rw[ata,asY (by show 2<=_;omega),show(j+1)*2+m-(fK a).length=j*2+m from by show(j+1)*2+m-2=_;omega]
  exact FZ m (by simpa using h) hm
theorem HM{d:Array (Int×Int)}{t:Nat}(h:t<d.size*2):some ((flatK fK 2 d)[t]!)=(d.toList.flatMap fK)[t]? :=by
 rw[get_flatK fK 2 d t h];have u:t/2<d.size:=Y;have e:=FZ (s:=d.toList) (j:=t/2) (x:=d[t/2]) (t%2) (by rw[avf,atP u]) Y;rw[show t/2*2+t%2=t from Y] at e;rw[e,auZ d (t/2) u];have:t%2=0\/t%2=1:=Y;rcases this with h|h<;>rw[h]<;>rfl
section
variable {w:World} {g n:Nat} {t:TypeId} {s:List (Int×Int)} {rest:List Value} {d:Array (Int×Int)} {os:Array Obj}
theorem NR(h:aP w g t (s.flatMap fK++rest)):HoldsK fK 2 w g 0 s.toArray:=by
 intro j hj;rw[size_flatK] at hj;refine⟨?_,h.frozen _⟩;have e:=HM hj;show w.cell? (ad g (0+j))=some (flatK fK 2 s.toArray)[j]!;rw[e,as9];have hj':j<(s.flatMap fK).length:=Yg;exact Yi
theorem Qm(h:aP w g t (s.flatMap fK++rest))(hd:d.size=s.length):aP (sortWorldK fK 2 w g 0 n d os) g t (d.toList.flatMap fK++rest):=by
 have u:=h.lt;unfold aP at h;show((w.heap.modify g (onCells (putCells id 0 (flatK fK 2 d))))++os)[g]? =_;rw[atZ (by simpa using u),avg,asp U,h];show some (Obj.cells (putCells id 0 (flatK fK 2 d) (s.flatMap fK++rest).toArray) t (0,0))=some (Obj.cells (d.toList.flatMap fK++rest).toArray t (0,0));have key:putCells id 0 (flatK fK 2 d) (s.flatMap fK++rest).toArray=(d.toList.flatMap fK++rest).toArray:=by
  apply Array.ext_getElem?;intro j;unfold putCells;rw[Array.getElem?_mapIdx,avh,avh];have l1:=BA s;have l2:(d.toList.flatMap fK).length=s.length*2:=by rw[BA];simp[hd]
  by_cases z:j<s.length*2
  .rw[asR Y,asR Y,asw Y];show some (if _ then _ else _)=_;rw[asp (by rw[size_flatK,hd];omega),aup];exact HM (by rw[hd];exact z)
  .rw[asY Y,asY Y,l1,l2];cases A:rest[j-s.length*2]? with
   |none=>rfl
   |some v=>
    show some (if _ then _ else _)=_;rw[aso (by rw[size_flatK,hd];omega)]
 rw[key]
theorem Et:aj (λb=>b≠g) w (sortWorldK fK 2 w g 0 n d os):=by
 exact aon
end
theorem Mi(x y:Int×Int):ltOf uJ x y=true↔Hj x y:=by
 unfold ltOf uJ uI Hj;rw[asy];split<;>(repeat' split)<;>omega
theorem BB(x y:Int×Int):ltOf uJ x y=false↔¬Hj x y:=by
 rw[<-Mi];simp
theorem Qn:SWO (ltOf uJ) where
 irrefl x:=by rw[BB];unfold Hj;omega
 trans x y z h1 u:=by rw[Mi] at*;unfold Hj at*;omega
 ntrans x y z h1 u:=by rw[BB] at*;unfold Hj at*;omega
section
variable {w:World}
set_option maxRecDepth 100000 in
theorem UO{g n c:Nat}{t:TypeId}{s:List (Int×Int)}{rest:aW}(hb:aP w g t (s.flatMap fK++rest))(hn:n=s.length)(hl:s.length<=1000000)(hnd:(s.map (·.2)).Nodup):aK prog 112 #[aB (aL g) n c,.func (.func 111) #[] #[]] w (λv w'=>v=.tuple #[]/\∃s':List (Int×Int),s'.Perm s/\s'.Pairwise Hj/\aP w' g t (s'.flatMap fK++rest)/\aj (λb=>b≠g) w w'):=by
 intro w0 hw;subst hw;subst hn;rw[avi];obtain⟨i,hi,hs⟩:=(gu (P:=prog) (t:=248) (n:=2) Z).2;have J:=AnyQ.slices_SortFunc Tryz.gsort 2 (λw=>iF (P:=prog) (t:=248) (n:=2) Z w) (λw=>by have:=run_sizeOf (P:=prog) hi w;rw[hs] at this;exact this) fK (λ_=>rfl) (λx v hv=>by simp only[asM,ats,aur] at hv;rcases hv with rfl|rfl<;>rfl) uJ Qn 111 #[] g 0 c s.toArray w0 (avn func111 Z U) (λm os dk hdk x y=>Xn x y _) (NR (w:=w0) hb) hb.lt (by simp;omega);change Calls prog 112 _ _ _ at J;rw[show s.toArray.size=s.length from auk ..] at J;apply J.mono;rintro e w' ⟨rfl,d',m,os,hp,hso,rfl⟩;have hds:d'.size=s.length:=by have:=hp.1;simpa using this
 have hperm:d'.toList.Perm s:=by have:=hp.2.2;rw[auI Y,auI (by simp)] at this;simpa using this
 refine⟨_,U,U,d'.toList,hperm,?_,Qm (w:=w0) hb hds,⟨U,U,U,(Et (w:=w0)).size,(Et (w:=w0)).aS⟩⟩;have O:=(hperm.map _).nodup_iff.2 hnd;rw[ato];intro a b ha hb' hab;refine Zl ?_;intro ha' hb'' h1;rw[auZ d' b hb'',auZ d' a ha',BB] at h1;have hne:d'[a].2≠d'[b].2:=by have:=ato.1 O a b (by simpa using ha) (by simpa using hb') hab;simpa using this
 rw[avo,avo];unfold Hj at h1|-;omega
end
end Go.Proofs.YtakcjkbnfegidaaGreat
namespace Go.Proofs.YtakcjkbnfegidaaGreat
open Go Go.RowKit Tryz
variable{e k t:TypeId}{v:Value}{u w:World}{L:List MapEntry}{g:Nat}{D:Nat->Prop}{ds:List Deferred}
section
variable {P:Program} {X:XK}
def uq(P:Program)(e:TypeId)(xs:aW)(off:Nat):Option Value:=match P.underlying e with
 |some (.struct _)|some (.array _ _)=>some (.agg ((xs.drop off).take (P.cellsOf e)).toArray)
 |some _=>xs[off]?
 |none=>none
def eqF(P:Program)(f:TypeId->Value->Value->Option Bool)(xs ys:aW):List Field->Option Bool
 |[]=>some true
 |d::fs=>if d.name= "_" then none else match uq P d.type xs d.offset,uq P d.type ys d.offset,eqF P f xs ys fs with
  |some a,some b,some s=>(match f d.type a b with|some r=>some (r&&s)|none=>none)
  |_,_,_=>none
def eqI(P:Program)(f:TypeId->Value->Value->Option Bool)(e:TypeId)(xs ys:aW):List Nat->Option Bool
 |[]=>some true
 |i::is=>match uq P e xs (i*P.cellsOf e),uq P e ys (i*P.cellsOf e),eqI P f e xs ys is with
  |some a,some b,some s=>(match f e a b with|some r=>some (r&&s)|none=>none)
  |_,_,_=>none
def Xo(P:Program):Nat->TypeId->Value->Value->Option Bool
 |0,_,_,_=>none
 |d+1,t,x,y=>match P.underlying t with
  |some .bool=>(match x,y with| .bool a,.bool b=>some (a == b)|_,_=>none)
  |some (.int _)=>(match x,y with| .int k a,.int k' b=>bif Nat.beq (Dy k) (Dy k') then some (a == b) else none|_,_=>none)
  |some .string=>(match x,y with| .string a,.string b=>some (a.toList == b.toList)|_,_=>none)
  |some (.array n e)=>(match x,y with| .agg xs,.agg ys=>if(P.info? e).isSome then eqI P (Xo P d) e xs.toList ys.toList (List.range n) else none|_,_=>none)
  |some (.struct fs)=>(match x,y with| .agg xs,.agg ys=>if P.stoodInHeld t then none else eqF P (Xo P d) xs.toList ys.toList fs.toList|_,_=>none)
  |_=>none
theorem jS{e:TypeId}{xs:Array Value}{off:Nat}{v:Value}(h:uq P e xs.toList off=some v)(w:World):(part e xs off).run P w=.ok v w:=by
 unfold uq at h;cases hu:P.underlying e with
 |none=>rw[hu] at h;cases h
 |some d=>
  obtain⟨i,hi⟩:=info_of_underlying hu;rw[hu] at h;have u:xs.extract off (off+P.cellsOf e)=((xs.toList.drop off).take (P.cellsOf e)).toArray:=Yg;cases d<;>dsimp only at h<;>first
   |(have h':xs[off]? =some v:=(by simpa using h);simp[part,isAgg,asX hu,h'];done)
   |(simp only[atW] at h;subst h;simp[part,isAgg,asX hu,Go.run_sizeOf w hi,u];done)
theorem zR(D:Nat):∀(d:Nat) (t:TypeId) (x y:Value) (r:Bool),Xo P d t x y=some r->∀w:World,(Op.equalIn (D+d) t x y).run P w=.ok r w
 |0,_,_,_,_,h=>by cases h
 |d+1,t,x,y,r,h=>by
  intro w
  have V:=zR D d
  unfold Xo at h
  cases hu:P.underlying t with
  |none=>rw[hu] at h;cases h
  |some k=>
   rw[hu] at h
   cases k<;>dsimp only at h<;>try(cases h;done)
   case bool=>
    split at h<;>cases h
    exact run_equalIn_bool' w (D+d) t _ _ hu
   case int q=>
    split at h
    .rename_i k a Y b
     cases u:Nat.beq (Dy k) (Dy Y) with
     |false=>rw[u] at h;cases h
     |true=>
      rw[u] at h
      cases h
      cases zH u
      exact run_equalIn_int w (D+d) t _ q _ _ hu
    .cases h
   case string=>
    split at h<;>cases h
    exact run_equalIn_string w (D+d) t _ _ hu
   case array n e=>
    split at h
    .rename_i xs ys
     split at h
     .rename_i hi
      obtain⟨i,hi⟩:=auf.1 hi
      rw[show D+(d+1)=(D+d)+1 from rfl,run_equalIn_array w (D+d) xs ys hu hi]
      generalize List.range n=is at h
      induction is generalizing r with
      |nil=>cases h;rfl
      |cons i is O=>
       unfold eqI at h
       split at h
       .rename_i a b s M u hs
        split at h
        .rename_i q J
         cases h
         rw[Op.eqItems,asI,jS M,asJ,asI,jS u,asJ,asI,V _ _ _ _ J,asJ]
         cases q
         .rfl
         .exact O _ hs
        .cases h
       .cases h
     .cases h
    .cases h
   case struct W=>
    split at h
    .rename_i xs ys
     split at h
     .cases h
     .rename_i A
      have z:P.fieldsOf t=W:=by simp[Program.fieldsOf,hu]
      rw[show D+(d+1)=(D+d)+1 from rfl,run_equalIn_struct w (D+d) t xs ys (by rw[z];exact hu) (by simpa using A),z]
      generalize W.toList=is at h
      induction is generalizing r with
      |nil=>cases h;rfl
      |cons i is O=>
       unfold eqF at h
       split at h
       .cases h
       .rename_i Z
        split at h
        .rename_i a b s M u hs
         split at h
         .rename_i q J
          cases h
          rw[Op.eqFields,asp Z,asI,jS M,asJ,asI,jS u,asJ,asI,V _ _ _ _ J,asJ]
          cases q
          .rfl
          .exact O _ hs
         .cases h
        .cases h
    .cases h
class F4 (P:Program) (t:TypeId):Prop where
 g:P.eqGuardType P.depth t=false
theorem UP[h:F4 P t](z u:Operand){xs ys:Array Value}{q:Bool}(J:Xo P 8 t (.agg xs) (.agg ys)=some q)(w:World):(do eqGuard .eql t z u (.agg xs) (.agg ys);binOp .eql t (.agg xs) (.agg ys):Sem Value).run P w=.ok (.bool q) w:=by
 have A:=zR 9992 8 t _ _ _ J w;rw[asI,run_eqGuard_agg w .eql t z u _ _ h.g,asJ,run_eql_struct,A];rfl
theorem Uz[h:F4 P t]{z u:Operand}{xs ys:Array Value}(q:Bool){K:Value->Prop}(M:Xo P 8 t (.agg xs) (.agg ys)=some q)(J:q=true->K (.bool true))(A:q=false->K (.bool false)):AF P .eql t z u (.agg xs) (.agg ys) K:=by
 rw[ke];apply cW λw=>UP z u M w;cases q
 .exact A rfl
 .exact J rfl
theorem mkI{s:Sem Next}{K:VK}(hs:s=vS (Instr.makeInterface t v))(u:P.concrete t=true)(k:K (.iface t v) w):xC P s K X w:=by
 rw[fP];refine mB.x λw0 hw=>?_;subst hw;rw[hs,gG,run_makeInterface _ t v u];exact k
theorem abk{s:Sem Next}{K:VK}(hs:s=vS (Instr.panic (.iface t v)))(k:X [{v:=.iface t v,recovered:=false}] w):xC P s K X w:=by
 rw[fP];intro w0 hw;subst hw;rw[hs,gG];exact k
theorem tAs{s:Sem Next}{t z:TypeId}{v:Value}{K:VK}{w:World}(hs:s=vS (Instr.typeAssert (.iface t v) z t true))(u:P.concrete t=true)(k:K (.tuple #[v,.bool true]) w):xC P s K X w:=by
 rw[fP];refine mB.x λw0 hw=>?_;subst hw;rw[hs,gG];have:(Instr.typeAssert (.iface t v) z t true).run P w0=.ok (.tuple #[v,.bool true]) w0:=by
  unfold Program.concrete at u;cases hd:P.underlying t with
  |none=>simp[hd] at u
  |some d=>cases d<;>first|(simp[hd] at u;done)|simp[Instr.typeAssert,asX hd]
 rw[this];exact k
end
section
open Classical
abbrev Kt(k v:Value)(c:Nat):MapEntry:={key:=k,val:=v,born:=c}
noncomputable def gz (v:Value):List MapEntry->Nat->Option (Nat×Value)
 |[],_=>none
 |e::r,i=>if e.key=v then some (i,e.val) else gz v r (i+1)
theorem pY{v:Value}:∀{L:List MapEntry} {i:Nat},gz v L i=none↔∀e∈L,e.key≠v
 |[],_=>by simp[gz]
 |e::r,i=>by
  unfold gz
  by_cases h:e.key=v
  .simp[h]
  .rw[aso h,pY];simp[h]
theorem nA{v x:Value}{n:Nat}:∀{L:List MapEntry} {i:Nat},gz v L i=some (n,x)->∃j e,n=i+j/\L[j]? =some e/\e.key=v/\e.val=x/\∀m y,m<j->L[m]? =some y->y.key≠v
 |[],_,h=>by simp[gz] at h
 |e::r,i,h=>by
  unfold gz at h
  by_cases hk:e.key=v
  .rw[asp hk] at h
   simp only[atW,atm] at h
   exact⟨0,e,h.1.symm,rfl,hk,h.2,λm y hm=>Y⟩
  .rw[aso hk] at h
   obtain⟨j,O,h1,M,J,A,z⟩:=nA h
   refine⟨j+1,O,Y,by simpa using M,J,A,λm y hm u=>?_⟩
   cases m with
   |zero=>simp at u;subst u;exact hk
   |succ m=>exact z m y Y (by simpa using u)
noncomputable def gN (v:Value)(L:List MapEntry):Option Value:=(gz v L 0).map (·.2)
theorem Ev(v:Value):∀(L:List MapEntry) (i j:Nat),(gz v L i).map (·.2)=(gz v L j).map (·.2)
 |[],_,_=>rfl
 |e::r,i,j=>by
  unfold gz
  split
  .rfl
  .exact Ev v r _ _
theorem eK(v:Value)(e:MapEntry)(r:List MapEntry):gN v (e::r)=if e.key=v then some e.val else gN v r:=by
 unfold gN;rw[gz];split
 .rfl
 .exact Ev v r _ _
theorem nB:gN v L=none↔gz v L 0=none:=by unfold gN;simp
theorem pZ{v:Value}{x:MapEntry}:∀(L:List MapEntry),gN x.key L=none->gN v (L++[x])=if x.key=v then some x.val else gN v L
 |[],_=>by rw[auy,eK]
 |e::r,h=>by
  rw[eK] at h
  split at h
  .cases h
  rename_i u
  rw[atC,eK,eK,pZ r h]
  by_cases h1:e.key=v
  .rw[asp h1,asp h1]
   subst h1
   rw[aso λe=>u e.symm]
  .rw[aso h1,aso h1]
theorem mT{k v u:Value}:∀(L:List MapEntry) (j:Nat) (e:MapEntry),L[j]? =some e->e.key=k->(∀m y,m<j->L[m]? =some y->y.key≠k)->gN u (L.modify j λe=>{e with val:=v})=if k=u then some v else gN u L
 |[],j,e,h,_,_=>by simp at h
 |x::r,0,e,h,hk,_=>by
  simp at h;subst h
  show gN u ({x with val:=v}::r)=_
  rw[eK,eK,hk]
  by_cases h:k=u
  .rw[asp h,asp h]
  .rw[aso h,aso h,aso h]
 |x::r,j+1,e,h,hk,A=>by
  have z:=A 0 x Y rfl
  show gN u (x::r.modify j _)=_
  rw[eK,eK,mT r j e (by simpa using h) hk λm y hm J=>A (m+1) y Y (by simpa using J)]
  by_cases h:k=u
  .subst h;rw[asp rfl,aso z,asp rfl]
  .rw[aso h,aso h]
class rD (P:Program) (k:TypeId) {κ:Type} (kv:κ->Value):Prop where
 inj:∀a b,kv a=kv b->a=b
 UA:∀(b:Bool) (a:κ) (w:World),(Instr.checkKey b 10000 k (kv a)).run P w=.ok () w
 bits:∀a,Instr.sameBits 10000 (kv a) (kv a)=true
 Xp:∀(a:κ) (L:List MapEntry) (w:World),(∀e∈L,∃q,e.key=kv q)->(Instr.findKey k (kv a) L).run P w=.ok (gz (kv a) L 0) w
def mN(L:List MapEntry)(c:Nat):Prop:=∀(i:Nat) (e:MapEntry),L[i]? =some e->e.born<c/\∀(j:Nat) (e':MapEntry),L[j]? =some e'->e'.born=e.born->j=i
structure qX {κ:Type} (kv:κ->Value) (w:World) (g:Nat) (L:List MapEntry) (c:Nat):Prop where
 au:w.heap[g]? =some (.map L.toArray c)
 keys:∀e∈L,∃q,e.key=kv q
 born:mN L c
def dw{κ:Type}(kv:κ->Value)(w:World)(g:Nat)(f:κ->Option Value):Prop:=∃L c,qX kv w g L c/\∀a,gN (kv a) L=f a
section
variable {P:Program} {κ:Type} {kv:κ->Value}
theorem dw.lt{f:κ->Option Value}(h:dw kv w g f):g<w.heap.size:=by obtain⟨L,c,h,_⟩:=h;exact(asV.1 h.au).1
theorem qX.ah{c:Nat}(h:qX kv w g L c)(k:aj D w u)(z:D g):qX kv u g L c:=⟨(k.aS g (asV.1 h.au).1 z).trans h.au,h.keys,h.born⟩
theorem dw.ah{f:κ->Option Value}(h:dw kv w g f)(k:aj D w u)(z:D g):dw kv u g f:=by
 obtain⟨L,c,h1,A⟩:=h;exact⟨L,c,h1.ah k z,A⟩
theorem dw.new(kv:κ->Value)(w:World):dw kv (w.alloc (.map #[] 0)) w.heap.size (λ_=>none):=⟨[],0,⟨by unfold World.alloc;simp,λ_ h=>(by cases h),λi e h=>by simp at h⟩,λ_=>rfl⟩
noncomputable def dZ (f:κ->Option Value)(a:κ)(v:Value):κ->Option Value:=λb=>if b=a then some v else f b
theorem jI(hm:mapOf P t=some (k,e)):P.underlying t=some (.map k e):=by
 unfold mapOf at hm;split at hm
 .exact Yg
 .cases hm
theorem yP{t k e:TypeId}{zv:Value}(hm:P.underlying t=some (.map k e))[hk:rD P k kv](A:zeroOf P e=some zv){w:World}{g:Nat}{f:κ->Option Value}(h:dw kv w g f)(a:κ)(ok:Bool):(Instr.lookup t (.map (some g)) (kv a) ok).run P w=.ok (match f a with|some v=>(if ok then .tuple #[v,.bool true] else v)|none=>(if ok then .tuple #[zv,.bool false] else zv)) w:=by
 obtain⟨L,c,z,J⟩:=h;unfold Instr.lookup;simp only[asI,asX hm,asJ,atQ z.au,atr,hk.UA];have u:=hk.Xp a L w z.keys;rw[<-J a,u];unfold gN;cases M:gz (kv a) L 0 with
 |none=>simp only[asJ,asI,iT A,atr,Option.map_none]
 |some p=>obtain⟨n,x⟩:=p;simp only[asJ,asI,atr,awz]
theorem dh{S:World->Prop}{t k e:TypeId}{zv:Value}[hm:jx P t k e][hk:rD P k kv][O:bQ P e zv]{g:Nat}(a:κ){K:Value->Prop}(v:Value)(h:∀u,S u->∃f:κ->Option Value,dw kv u g f/\(f a).getD zv=v)(M:K v):Ht P S t (.map (some g)) (kv a) false K:=by
 rw[pc];refine⟨v,λw hw w0 V=>?_,M⟩;subst V;obtain⟨f,h1,A⟩:=h _ hw;have:=yP (jI hm.h) O.h (w:=w0) (show dw kv w0 g f from by obtain⟨L,c,J,z⟩:=h1;exact⟨L,c,⟨J.au,J.keys,J.born⟩,z⟩) a false;rw[gG,this];cases z:f a with
 |none=>rw[z] at A;exact⟨A,rfl⟩
 |some x=>rw[z] at A;exact⟨A,rfl⟩
theorem mN.push{c:Nat}(h:mN L c)(k v:Value):mN (L++[(Kt (k) v c)]) (c+1):=by
 intro i e he;have hi:i<L.length+1:=by have:=(asr.1 he).1;simpa using this
 by_cases h1:i<L.length
 .rw[asR h1] at he;obtain⟨X,W⟩:=h i e he;refine⟨Y,λj A u z=>?_⟩;by_cases O:j<L.length
  .rw[asR O] at u;exact W j A u z
  .rw[asY Y] at u;have:A=(Kt (k) v c):=by
    have V:=(asr.1 u).1;have:j-L.length=0:=by simpa using V
    rw[this] at u;simpa using u.symm
   subst this;simp only at z;omega
 .have J:i=L.length:=Y;subst J;have M:e=(Kt (k) v c):=by rw[asY Y] at he;simpa using he.symm
  subst M;refine⟨Nat.lt_succ_self c,λj A u z=>?_⟩;by_cases O:j<L.length
  .rw[asR O] at u;have:=(h j A u).1;simp only at z;omega
  .have:=(asr.1 u).1;simp at this;omega
theorem mN.modify{c:Nat}(h:mN L c)(j:Nat)(v:Value):mN (L.modify j λe=>{e with val:=v}) c:=by
 have key:∀(i:Nat) (e:MapEntry),(L.modify j λe=>{e with val:=v})[i]? =some e->∃u,L[i]? =some u/\e.born=u.born:=Yg;intro i e he;obtain⟨u,h1,h2⟩:=key i e he;obtain⟨Z,M⟩:=h i u h1;refine⟨Y,λz V A W=>?_⟩;obtain⟨O,J,X⟩:=key z V A;exact M z O J Y
theorem rF{L:List MapEntry}(h:∀e∈L,∃q,e.key=kv q)(j:Nat)(v:Value):∀e∈(L.modify j λe=>{e with val:=v}),∃q,e.key=kv q:=by
 intro y M;obtain⟨m,u⟩:=ath M;rw[auz] at u;cases z:L[m]? with
 |none=>rw[z] at u;cases u
 |some J=>
  rw[z] at u;simp only[Option.map_eq_map,awz,atW] at u;obtain⟨q,A⟩:=h J (asq z);refine⟨q,?_⟩;subst u;split
  .exact A
  .exact A
theorem HN{j:Nat}{e:MapEntry}{k:Value}(h:L[j]? =some e)(hk:e.key=k):(L.modify j λe=>{e with key:=k})=L:=by
 apply atG;intro m;rw[auz];by_cases hm:j=m
 .subst hm;rw[h];subst hk;simp
 .exact Yg
theorem HO{j:Nat}{e:MapEntry}{k:Value}(h:L[j]? =some e)(hk:e.key=k):(L.modify j λe=>{e with key:=k,val:=v})=L.modify j λe=>{e with val:=v}:=by
 apply atG;intro m;rw[auz,auz];by_cases hm:j=m
 .exact Yg
 .exact Yg
theorem heap_set{w0:World}{c:Nat}{o:Obj}(hb:w0.heap[g]? =some (.map L.toArray c)):aj (λb=>b≠g) (z w0) (z {w0 with heap:=w0.heap.setIfInBounds g o})/\(z {w0 with heap:=w0.heap.setIfInBounds g o}).heap[g]? =some o:=by
 exact aou
theorem kV{t k e:TypeId}[hm:jx P t k e][hk:rD P k kv]{g:Nat}{f:κ->Option Value}(a:κ){v:Value}{w:World}{K:VK}(h:dw kv w g f)(kk:∀w',dw kv w' g (dZ f a v)->aj (λb=>b≠g) w w'->w'.heap.size=w.heap.size->K undef w'):L5 P t (.map (some g)) (kv a) v K w:=by
 rw[pd];intro w0 hw;subst hw;have h1:=jI hm.h;obtain⟨L,c,hE,hf⟩:=h;have hb:w0.heap[g]? =some (.map L.toArray c):=hE.au;have hfn:=hk.Xp a L w0 hE.keys;cases hp:gz (kv a) L 0 with
 |none=>
  rw[hp] at hfn;have hr:(uS (Instr.mapUpdate t (.map (some g)) (kv a) v)).run P w0=.ok .skip {w0 with heap:=w0.heap.setIfInBounds g (.map (L++[(Kt (kv a) v c)]).toArray (c+1))}:=aoG
  rw[hr];obtain⟨k1,k2⟩:=heap_set (o:=.map (L++[(Kt (kv a) v c)]).toArray (c+1)) hb;refine kk (z {w0 with heap:=w0.heap.setIfInBounds g _}) ⟨_,_,⟨k2,λy hy=>?_,hE.born.push _ _⟩,λb=>?_⟩ k1 (by simp[z])
  .exact ady
  .rw[pZ (x:=(Kt (kv a) v c)) L (nB.2 hp)];exact TM
 |some p=>
  obtain⟨n,x⟩:=p;rw[hp] at hfn;obtain⟨j,y,hn,hj,hy,_,J⟩:=nA hp;have hn:n=j:=Y;subst hn;have hr:(uS (Instr.mapUpdate t (.map (some g)) (kv a) v)).run P w0=.ok .skip {w0 with heap:=w0.heap.setIfInBounds g (.map (L.modify n λe=>{e with val:=v}).toArray c)}:=aoi
  rw[hr];obtain⟨k1,k2⟩:=heap_set (o:=.map (L.modify n λe=>{e with val:=v}).toArray c) hb;refine kk (z {w0 with heap:=w0.heap.setIfInBounds g _}) ⟨_,_,⟨k2,rF hE.keys n v,hE.born.modify n v⟩,λb=>?_⟩ k1 (by simp[z]);rw[mT (k:=kv a) L n y hj hy J];exact TM
abbrev dE(p:Int×Int):Value:=.agg #[.int .i64 p.1,.int .i64 p.2]
structure Qo (P:Program) (k e:TypeId):Prop where
 u:P.underlying k=some (.array 2 e)
 ue:P.underlying e=some (.int .i64)
 i:(P.info? e).isSome=true
 one:P.cellsOf e=1
 eq:∀a b c d:Int,Xo P 8 k (.agg #[.int .i64 a,.int .i64 b]) (.agg #[.int .i64 c,.int .i64 d])=some ((a == c)&&((b == d)&&true))
theorem Qp(h:Qo P k e)(b:Bool)(a:Int×Int)(w:World):(Instr.checkKey b 10000 k (dE a)).run P w=.ok () w:=by
 obtain⟨i,hi⟩:=auf.1 h.i;have hs:=Go.run_sizeOf w hi;have J:(part e #[.int .i64 a.1,.int .i64 a.2] 0).run P w=.ok (.int .i64 a.1) w:=jS (by unfold uq;rw[h.ue];rfl) w;have p1:(part e #[.int .i64 a.1,.int .i64 a.2] 1).run P w=.ok (.int .i64 a.2) w:=jS (by unfold uq;rw[h.ue];rfl) w;have O:∀n:Int,(Instr.checkKey b 9999 e (.int .i64 n)).run P w=.ok () w:=λn=>Yy
 rw[show(10000:Nat)=9999+1 from rfl];unfold Instr.checkKey;simp only[asI,asX h.u,asJ];simp only[Std.Legacy.Range.forIn_eq_forIn_range',Std.Legacy.Range.size,aup,Nat.add_one_sub_one,Nat.div_one];simp only[List.range',List.forIn_cons,List.forIn_nil,asI,hs,h.one,asJ,J,p1,O,atr,avW,aua,as9]
theorem Qq{k e:TypeId}(h:Qo P k e)(a:Int×Int)(L:List MapEntry)(w:World)(J:∀e∈L,∃q,e.key=dE q):(Instr.findKey k (dE a) L).run P w=.ok (gz (dE a) L 0) w:=by
 have heq:∀q,(Op.equal k (dE a) (dE q)).run P w=.ok ((a.1 == q.1)&&((a.2 == q.2)&&true)) w:=λq=>zR 9992 8 k _ _ _ (h.eq a.1 a.2 q.1 q.2) w;have ask:∀(L:List MapEntry) (i:Nat),(∀e∈L,∃q,e.key=dE q)->(Instr.findAsking k (dE a) L i).run P w=.ok (gz (dE a) L i) w:=an9
 unfold Instr.findKey;rw[asI,asX h.u];simp only[asJ];cases L with
 |nil=>simp[Instr.findNow,gz]
 |cons x r=>
  obtain⟨q,hq⟩:=J x ass;have:Instr.findNow (.array 2 e) (dE a) (x::r) 0=none:=by unfold Instr.findNow;rw[hq];rfl
  rw[this];exact ask _ 0 J
theorem Qo.law(h:Qo P k e):rD P k dE where
 inj a b h:=Yg
 UA:=Qp h
 bits a:=by
  rw[show(10000:Nat)=9998+1+1 from rfl]
  simp[Instr.sameBits]
 Xp:=Qq h
end
end
section
variable {P:Program}
structure Qr {α β:Type} (enc:α->β->List (Nat×Value)) (I:α->β->List Deferred->World->Prop) (μ:α->β->World->Nat) (m:Nat) (F:Fr) (ds:List Deferred) (w:World):Prop where
 fI::
 fR:∃(a:α) (b:β),Has F (enc a b)/\I a b ds w/\μ a b w<m
theorem Xq{α β:Type}{enc:α->β->List (Nat×Value)}{I:α->β->List Deferred->World->Prop}{μ:α->β->World->Nat}{m:Nat}{F:Fr}(a:α)(b:β)(h:Has F (enc a b))(hi:I a b ds w)(hm:μ a b w<m):Qr enc I μ m F ds w:=⟨a,b,h,hi,hm⟩
theorem Xr{c:Code}{K:KK}{F0:Fr}{O:List Deferred}{w0:World}{α β:Type}(enc:α->β->List (Nat×Value))(I:α->β->List Deferred->World->Prop)(μ:α->β->World->Nat)(a0:α)(b0:β)(h0:Has F0 (enc a0 b0))(hI:I a0 b0 O w0)(step:∀(G:Fr) (a:α) (b:β) (ds:List Deferred) (w:World),I a b ds w->V P c (λe F' J w'=>match e with| .normal=>Qr enc I μ (μ a b w) F' J w'|e=>K e F' J w') (FN (enc a b) (PZ (writes c) F0 G)) ds w):yL c (V P c) K F0 O w0:=by
 rw[rm];refine⟨λn F J w=>vu (writes c) F0 F/\∃a b,Has F (enc a b)/\I a b J w/\μ a b w=n,⟨_,.refl _ _,a0,b0,h0,hI,rfl⟩,?_⟩;rintro n F J w ⟨hf,a,b,hs,hi,rfl⟩;have hm:PZ (writes c) F0 F=F:=funext λj=>X8
 have h1:=step F a b J w hi;rw[hm,rq hs] at h1;refine AY c _ _ F J w (λe F' a7 w' a6 hd h=>?_) h1;cases e with
 |normal=>
  obtain⟨a',b',a1,a2,a3⟩:=h.fR;exact⟨_,a3,hf.trans (a6 λ_ e=>by cases e),a',b',a1,a2,rfl⟩
 |_=>exact h
def Marks(lo:Nat):List Deferred->World->Prop
 |[],_=>True
 |d::ds,w=>(∃b,d.target=.collected b/\lo<=b/\w.heap[b]? =some (.deferred (some []))/\∀d'∈ds,d'.target≠.collected b)/\Marks lo ds w
theorem Marks.lt{lo:Nat}:∀{ds:List Deferred} {w:World},Marks lo ds w->∀d∈ds,∀b,d.target=.collected b->b<w.heap.size
 |d::ds,w,⟨⟨b,h1,V,J,O⟩,A⟩,x,z,M,u=>by
  rcases asM.1 z with rfl|z
  .rw[h1] at u;injection u with u;subst u
   exact(asV.1 J).1
  .exact A.lt x z M u
theorem Marks.ah{lo:Nat}{D:Nat->Prop}:∀{ds:List Deferred} {w z:World},Marks lo ds w->aj D w z->(∀b,lo<=b->b<w.heap.size->w.heap[b]? =some (.deferred (some []))->D b)->Marks lo ds z
 |[],_,_,_,_,_=>trivial
 |_::_,_,_,⟨⟨b,h1,J,u,O⟩,M⟩,k,A=>⟨⟨b,h1,J,(k.aS b (asV.1 u).1 (A b J (asV.1 u).1 u)).trans u,O⟩,M.ah k A⟩
theorem Marks.ae{lo:Nat}(h:Marks lo ds w)(k:ax w u):Marks lo ds u:=h.ah k λ_ _ _ _=>Yt
theorem Marks.add{lo b:Nat}(h:Marks lo ds w)(k:ax w u)(J:w.heap.size<=b)(z:lo<=b)(hw:u.heap[b]? =some (.deferred (some []))):Marks lo ({target:=.collected b,args:=#[]}::ds) u:=⟨⟨b,rfl,z,hw,λA hd e=>by have:=h.lt A hd b e;omega⟩,h.ae k⟩
theorem Marks.shut{lo:Nat}:∀{ds:List Deferred} {w:World},Marks lo ds w->∃u,gU ds w=some u/\aj (λb=>b<lo) w u
 |[],w,_=>⟨w,rfl,.refl _ _⟩
 |d::ds,w,⟨⟨b,h1,h2,Z,A⟩,X⟩=>by
  have k:aj (λc=>c≠b) w (w.putObj b (.deferred none)):=aj.putObj w b _
  have W:Marks lo ds (w.putObj b (.deferred none)):=by
   clear h2
   induction ds with
   |nil=>trivial
   |cons x r J=>
    obtain⟨⟨c,g1,g2,g3,g4⟩,g5⟩:=X
    have z:c≠b:=λe=>A x ass (e▸g1)
    exact⟨⟨c,g1,g2,(k.aS c (asV.1 g3).1 z).trans g3,g4⟩,J (λy M=>A y (ast _ M)) g5⟩
  obtain⟨u,V,O⟩:=Marks.shut W
  refine⟨u,?_,(k.cU λi _ hi=>Y).trans O⟩
  unfold gU
  rw[h1]
  simp only[Z]
  exact V
theorem amG{rs:List ResultVar}{F:Fr}{R:VK}{lo:Nat}(hm:Marks lo ds w)(h:∀u,aj (λb=>b<lo) w u->zf P F u rs [] λvs=>R (FM vs) u):Be P rs F ds R w:=by
 rw[lV];obtain⟨u,h1,z⟩:=hm.shut;exact⟨u,h1,h u z⟩
end
section
variable {P:Program} {X:XK}
theorem DI(zs:aW)(J:(zs.all λv=>v.oneCell')=true)(n:Nat):∀v∈(Builtin.zeroCells zs.toArray n).toList,v.oneCell'=true:=by
 intro v z;unfold Builtin.zeroCells at z;simp only[auk,Array.toList_map,Array.toList_range,asS,as0] at z;obtain⟨i,hi,rfl⟩:=z;have u:0<zs.length:=by
  rcases atD zs.length with h|h
  .rw[h,Nat.mul_zero] at hi;omega
  .exact h
 have A:i%zs.length<zs.toArray.size:=by simpa using Nat.mod_lt i u
 rw[auZ zs.toArray (i%zs.length) A];exact asH.1 J _ (by simp)
theorem clr{t e:TypeId}{sz:Nat}{zv:Value}[h:cu P t e sz][hz:bQ P e zv]{ty:TypeId}{J:Array Bool}{g o n c:Nat}{cs:aW}{w:World}{K:VK}(hb:aP w g e cs)(hn:0<n)(ho:o+n*sz<=cs.length)(kk:∀A M,aP A g e M->M.take o=cs.take o->M.length=cs.length->aj (λb=>b≠g) w A->K (.tuple #[]) A)(V:(cz zv).length=sz:=by rfl)(h1:((cz zv).all λu=>u.oneCell')=true:=by rfl):DE P .clear #[t] ty J #[.slice (some (ad g o)) n c] K X w:=by
 rw[nZ];refine mB.x λw0 hw=>?_;subst hw;obtain⟨hu,_⟩:=dF h.h;have W:(Builtin.zeroCells (cz zv).toArray n).toList.length=n*sz:=by rw[Array.length_toList,size_zeroCells];simp[V]
 obtain⟨A,hr,a1,hk,_⟩:=mE (P:=P) (Builtin.zeroCells (cz zv).toArray n).toList o 0 cs w0 hb (by rw[W];omega) (DI _ h1 n);have O:(builtin .clear #[t] ty J #[.slice (some (ad g o)) n c]).run P w0=.ok (.value (.tuple #[])) A:=by
  have Z:builtin .clear #[t] ty J #[.slice (some (ad g o)) n c]=(do pure (.value (<-Builtin.clear_ #[t] ty #[.slice (some (ad g o)) n c]))):=rfl;rw[Z,asI];have:(Builtin.clear_ #[t] ty #[.slice (some (ad g o)) n c]).run P w0=.ok (.tuple #[]) A:=by obtain⟨m,rfl⟩:∃m,n=m+1:=⟨n-1,Y⟩;simp[Builtin.clear_,asX hu,iT hz.h,lF,hr]
  rw[this];rfl
 rw[O];refine kk (z A) _ a1 ?_ ?_ ⟨hk.os,hk.tape,hk.output,hk.size,hk.aS⟩
 .rw[Nat.add_zero,as5,avd Yg,List.take_take,Nat.min_self]
 .exact Yg
theorem F5{sz:Nat}[z:cu P t e sz]{o n c:Nat}{lo hi:Option Value}{K:Value->Prop}(l h:Nat)(J:Xk lo l 0)(M:Xk hi h n)(h1:l<=h)(W:h<=c)(V:l<c)(O:K (.slice (some (ad g (o+l*sz))) (h-l) (c-l))):PS P t (.slice (some (ad g o)) n c) lo hi none K:=by
 rw[vE];obtain⟨hu,inf,u,A⟩:=dF z.h;refine cW (λw=>?_) O;unfold Instr.sliceAt;rw[asI,asX hu];simp only[asJ];unfold Instr.slice;rw[asI,asX hu];simp only[asJ];rw[asI,mF J M h1 W];simp only[asJ];rw[asI,run_sizeOf u,A];have:¬(c=l):=Y;show Result.ok (Value.slice (if c=l then some (ad g o) else(some (ad g o)).map (·.add (l*sz))) (h-l) (c-l)) w=_;rw[aso this];show Result.ok (Value.slice (some ((ad g o).add (l*sz))) (h-l) (c-l)) w=_;rw[ru]
end
def JS{α:Type}(n:Nat)(c:α->aW)(hl:∀x,(c x).length=n):Ty α where
 sz:=n
 uF _ _ cs x:=cs=c x
 an h:=by rw[h];exact hl _
 di _ h:=h
 ar _ h:=h
structure zk where
 name:ByteArray
 aZ:Int
 zl:Int
 BC:Int
abbrev zk.c(x:zk):aW:=[.string x.name,iv x.aZ,iv x.zl,iv x.BC]
structure NS where
 name:ByteArray
 UQ:Int
abbrev NS.c(x:NS):aW:=[.string x.name,iv x.UQ]
structure gW where
 name:ByteArray
 kind:Int
 aO:Int
 aZ:Int
 cC:Int
 aC:Int
 dq:Int
 to:Int
 every:Int
 length:Int
abbrev gW.c(x:gW):aW:=[.string x.name,iv x.kind,iv x.aO,iv x.aZ,iv x.cC,iv x.aC,iv x.dq,iv x.to,iv x.every,iv x.length]
structure BD where
 name:ByteArray
 aO:Int
 aZ:Int
 due:Int
abbrev BD.c(x:BD):aW:=[.string x.name,iv x.aO,iv x.aZ,iv x.due]
structure amH where
 aO:Int
 aZ:Int
 d:Int
 kernel:aX
def lH:Ty Reach:=JS 12 Reach.c λ_=>rfl
def yQ:Ty zk:=JS 4 zk.c λ_=>rfl
def Xs:Ty NS:=JS 2 NS.c λ_=>rfl
def xR:Ty gW:=JS 10 gW.c λ_=>rfl
def Qs:Ty BD:=JS 4 BD.c λ_=>rfl
def Xt:Ty amH:=ZL (pg cO (pg cO (pg cO (Xg cO)))) λx=>(x.aO,x.aZ,x.d,x.kernel)
structure aU where
 name:ByteArray
 aG:Int
 cap:Int
 bH:Int
 aD:List Reach
 aR:List zk
 mO:List NS
 bn:List gW
 ed:List BD
 Xu:List amH
structure iG (D:Nat->Prop) (w:World) (cs:aW) (d:aU):Prop where
 fI::
 ex:∃A1 n1 c1 A2 n2 c2 A3 n3 c3 A4 n4 c4 A5 n5 c5 A6 n6 c6,cs=[.string d.name,iv d.aG,iv d.cap,iv d.bH,.slice A1 n1 c1,.slice A2 n2 c2,.slice A3 n3 c3,.slice A4 n4 c4,.slice A5 n5 c5,.slice A6 n6 c6]/\
  bS lH D w A1 n1 d.aD/\bS yQ D w A2 n2 d.aR/\bS Xs D w A3 n3 d.mO/\bS xR D w A4 n4 d.bn/\bS Qs D w A5 n5 d.ed/\bS Xt D w A6 n6 d.Xu
theorem iG.di{cs:aW}{d:aU}(hk:∀b,b<w.heap.size->D b->u.heap[b]? =w.heap[b]?)(h:iG D w cs d):iG D u cs d:=by
 obtain⟨A1,n1,c1,A2,M,c2,A3,J,c3,A4,A,c4,A5,z,c5,A6,n6,Z,h,h1,Y,X,W,V,O⟩:=h.ex;exact⟨A1,n1,c1,A2,M,c2,A3,J,c3,A4,A,c4,A5,z,c5,A6,n6,Z,h,h1.di hk,Y.di hk,X.di hk,W.di hk,V.di hk,O.di hk⟩
theorem iG.ar{D':Nat->Prop}{cs:aW}{d:aU}(hk:∀b,b<w.heap.size->D b->D' b)(h:iG D w cs d):iG D' w cs d:=by
 obtain⟨A1,n1,c1,A2,J,c2,A3,A,c3,A4,z,c4,A5,u,Z,A6,n6,Y,h,h1,X,W,V,O,M⟩:=h.ex;exact⟨A1,n1,c1,A2,J,c2,A3,A,c3,A4,z,c4,A5,u,Z,A6,n6,Y,h,h1.ar Yd hk,X.ar Yd hk,W.ar Yd hk,V.ar Yd hk,O.ar Yd hk,M.ar Yd hk⟩
theorem iG.ah{D':Nat->Prop}{cs:aW}{d:aU}(h:iG D w cs d)(k:aj D' w u)(hd:∀b,b<w.heap.size->D b->D' b):iG D u cs d:=h.di λb z A=>k.aS b z (hd b z A)
theorem iG.ae{cs:aW}{d:aU}(h:iG D w cs d)(k:ax w u):iG D u cs d:=h.ah k λ_ _ _=>Yt
def amI:Ty aU where
 sz:=10
 uF:=iG
 an h:=by obtain⟨A1,n1,c1,A2,n2,c2,A3,n3,c3,A4,n4,c4,A5,n5,c5,A6,n6,c6,rfl,-⟩:=h.ex;rfl
 di hk h:=h.di hk
 ar hB h:=h.ar hB
def fQ:aX->Bool
 |a::b::l=>decide (a<=b)&&fQ (b::l)
 |_=>true
theorem zS{a b c:Int}:fQ [a,b,c]=dS b a c:=by unfold fQ fQ fQ dS;rw[avJ]
def gQ(x:Reach):Bool:=dS x.bD 1 16&&(dS x.cap 0 1073741824&&(dS x.vN 0 1099511627776&&(dS x.dM 0 (min x.cap x.vN)&&eB x)))
theorem eu{x:Reach}:gQ x=true↔(1<=x.bD/\x.bD<=16)/\(0<=x.cap/\x.cap<=1073741824)/\(0<=x.vN/\x.vN<=1099511627776)/\(0<=x.dM/\x.dM<=min x.cap x.vN)/\eB x=true:=by
 unfold gQ;simp only[asv,bO]
def qf(i:Nat)(up:Int):Bool:=if i=0 then decide (up= -1) else dS up 0 ((i:Int)-1)
section
variable {D:Nat->Prop} {w:World}
theorem km{i n:Int}:aK prog 216 #[iv i,iv n] w (λv w'=>v=.bool (dS i 0 (n-1))/\w'=w):=by
 refine aF func216 Z<|cD (λg=>?_) λg=>?_
 .refine cD (λg2=>?_) λg2=>?_
  .exact aQ (.bool true) U ⟨by rw[bO.2 Y],U⟩
  .exact uB
 .exact uB
theorem Qt{a b:Q}:aA 303 #[Xl a b] w (.bool (jE a b)):=by
 apply aF func303 Z;refine box λg w1 h1=>?_;have hc:=bF.aS h1.aS;apply qW 0 U Yd;apply fj _ (hc.JR 0 2) U;apply qW 1 U Yd;apply fj _ (hc.JR 2 2) U;refine bW (Qb (a:=a) (b:=b)) λw2 X=>?_;have b2:=h1.aS.ae X;have x:=h1.ae.trans X;have hs:jE a b=true↔dR a=true/\dR b=true/\0<=a.n/\a.n*b.d<=b.n*a.d/\b.n<=b.d:=by
  rw[gy,eJ,eJ];refine⟨λ⟨⟨h1,O,h3⟩,⟨M,h5,J⟩,A⟩=>⟨h1,M,O,A,J⟩,λ⟨h1,M,O,A,J⟩=>?_⟩;have d1:=(cV.1 h1).1;have d2:=(cV.1 M).1;have hb:0<=b.n:=by have:=auJ (atq O Y) A;exact Int.not_lt.1 λV=>by have:=Int.mul_neg_of_neg_of_pos V (show 0<a.d from Y);omega
  have ha:=Int.not_lt.1 λV=>by have e1:b.n*a.d<=b.d*a.d:=ati J Y;have e2:a.d*b.d<a.n*b.d:=awc V Y;rw[Int.mul_comm b.d] at e1;omega
  exact⟨⟨h1,O,ha⟩,⟨M,hb,J⟩,A⟩
 have bad:¬(dR a=true/\dR b=true/\0<=a.n/\a.n*b.d<=b.n*a.d/\b.n<=b.d)->Value.bool false=.bool (jE a b):=λh=>by rw[show jE a b=false from atl.2 λe=>h (hs.1 e)]
 by_cases z:dR a=true/\dR b=true
 .have W:Bt a b=(zi (a.n*b.d) (b.n*a.d),0):=by unfold Bt;rw[z.1,z.2];rfl
  have u:zi (a.n*b.d) (b.n*a.d)<=0↔a.n*b.d<=b.n*a.d:=by unfold zi;split<;>(try split)<;>omega
  rw[W];refine cE (λ_=>?_) λh=>absurd U h;apply qW 0 U Yd;refine go ?_;refine cD (λg1=>?_) λg1=>?_
  .refine cD (λg2=>?_) λg2=>?_
   .refine qW 1 U Yd ?_;refine go ?_;refine qW 1 U Yd ?_;refine go ?_;refine cD (λg3=>?_) λg3=>?_
    .exact aQ (.bool true) U ⟨by rw[hs.2 ⟨z.1,z.2,g1,u.1 g2,g3⟩],x⟩
    .exact aQ _ U ⟨bad λh=>g3 h.2.2.2.2,x⟩
   .exact aQ _ U ⟨bad λh=>g2 (u.2 h.2.2.2.1),x⟩
  .exact aQ _ U ⟨bad λh=>g1 h.2.2.1,x⟩
 .have W:Bt a b=(0,120):=by unfold Bt;rw[aso (by simpa using z)]
  rw[W];refine cE (λh=>absurd h Yd) λ_=>aQ _ U ⟨bad λh=>z ⟨h.1,h.2.1⟩,x⟩
end
end Go.Proofs.YtakcjkbnfegidaaGreat
