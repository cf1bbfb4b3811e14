/- Part. -/
import Derived.Test.YtakcjkbnfegidaaGreatPT0
set_option linter.all false
namespace Go.Proofs.YtakcjkbnfegidaaGreat
open Go Tryz
variable{P:Program}{w:World}{s:Sem Next}{i:Nat}{a:Act}{K:Act->World->Prop}{l listed:Array Bool}{B:List Nat}{v:Value}
def z(w:World):World:={w with drawn:=0}
@[simp] theorem aqd (w:World):(z w).heap=w.heap:=rfl
@[simp] theorem aqe (w:World) (a:Addr):(z w).cell? a=w.cell? a:=rfl
@[simp] theorem ajP (w:World) (a:Addr):(z w).frozen? a=w.frozen? a:=rfl
abbrev Fw(r:Option Nat):Fence:={Fence.wide with round:=r}
abbrev VK:=Value->World->Prop
def aK(P:Program)(f:FuncId)(args:Array Value)(w:World)(R:VK):Prop:=∀w0,z w0=w->CallsIn Fence.wide 0 P f args w0 λe w'=>∃v,e=.returned v/\R v (z w')
def ajQ(P:Program)(row:String)(args:Array Value)(w0:World)(R:VK):Prop:=RowsIn Fence.wide 0 P row args w0 λv w'=>R v (z w')
def PJ(P:Program)(l:Nat)(f:FuncId)(tmps:Array Value)(assign body:Code)(w0:World)(R:VK):Prop:=RoundIn Fence.wide 0 P l f tmps assign body w0 λe w'=>∃v,e=.returned v/\R v (z w')
theorem aK.mono{f:FuncId}{args:Array Value}{R z:VK}(h:aK P f args w R)(J:∀v u,R v u->z v u):aK P f args w z:=λw0 hw=>(h w0 hw).mono λ_ _ ⟨v,he,A⟩=>⟨v,he,J _ _ A⟩
def LS(P:Program)(K:VK):Result Next->Prop
 | .ok (.value v) w'=>K v (z w')
 | .ok .skip w'=>K undef (z w')
 | .ok (.enter f args) w'=>CallsIn Fence.wide 0 P f args w' λe w''=>∃v,e=.returned v/\K v (z w'')
 | .ok (.row row args) w'=>ajQ P row args w' K
 | .ok (.round l f tmps assign body) w'=>PJ P l f tmps assign body w' K
 |_=>False
def mB(P:Program)(s:Sem Next)(K:VK)(w:World):Prop:=∀w0,z w0=w->LS P K (s.run P w0)
theorem JY{P:Program}{K A:VK}(h:∀v w,K v w->A v w):∀r,LS P K r->LS P A r
 | .ok (.value _) _,u=>h _ _ u
 | .ok .skip _,u=>h _ _ u
 | .ok (.enter _ _) _,u=>awq u λ_ _ ⟨v,he,z⟩=>⟨v,he,h _ _ z⟩
 | .ok (.row _ _) _,u=>RowsIn.mono u λ_ _ z=>h _ _ z
 | .ok (.round _ _ _ _ _) _,u=>RoundIn.mono u λ_ _ ⟨v,he,z⟩=>⟨v,he,h _ _ z⟩
 | .ok (.defer _) _,u| .ok .recover _,u| .ok (.spawn _) _,u| .ok (.comm _ _ _) _,u| .ok .numGoroutine _,u| .ok .collect _,u
 | .ok (.watch _) _,u| .ok (.newcoro _ _) _,u| .ok (.coroswitch _ _) _,u| .ok (.sleep _) _,u| .ok (.timer _) _,u| .ok (.alone _ _) _,u
 | .ok (.callThen _ _ _ _) _,u| .ok (.stack _ _) _,u| .halt _ _,u=>u.elim
theorem mB.mono{K u:VK}(z:mB P s K w)(h:∀v w,K v w->u v w):mB P s u w:=λw0 hw=>JY h _ (z w0 hw)
def fq(P:Program)(s:Sem Next)(K:Value->Prop):Prop:=∃v,(∀w,s.run P w=.ok (.value v) w)/\K v
theorem fq.op{K:VK}(h:fq P s λv=>K v w):mB P s K w:=by
 obtain⟨v,u,hk⟩:=h;intro w0 hw;rw[u];subst hw;exact hk
abbrev XK:=List PanicEntry->World->Prop
def Hn(P:Program)(K:VK)(X:XK):Result Next->Prop
 | .ok (.value v) w'=>K v (z w')
 | .ok .skip w'=>K undef (z w')
 | .ok (.enter f args) w'=>CallsIn Fence.wide 0 P f args w' λe w''=>match e with| .returned v=>K v (z w'')| .panicked ch=>X ch (z w'')| .outgrown=>False
 | .ok (.row row args) w'=>ajQ P row args w' K
 | .ok (.round l f tmps assign body) w'=>PJ P l f tmps assign body w' K
 | .halt (.panic v) w'=>X [{v,recovered:=false}] (z w')
 |_=>False
def Ho(P:Program)(s:Sem Next)(K:VK)(X:XK)(w:World):Prop:=∀w0,z w0=w->Hn P K X (s.run P w0)
theorem PK{P:Program}{K:VK}{X:XK}:∀r,LS P K r->Hn P K X r
 | .ok (.value _) _,u=>u
 | .ok .skip _,u=>u
 | .ok (.enter _ _) _,u=>awq u λ_ _ ⟨v,he,z⟩=>by subst he;exact z
 | .ok (.row _ _) _,u=>u
 | .ok (.round _ _ _ _ _) _,u=>u
 | .ok (.defer _) _,u| .ok .recover _,u| .ok (.spawn _) _,u| .ok (.comm _ _ _) _,u| .ok .numGoroutine _,u| .ok .collect _,u
 | .ok (.watch _) _,u| .ok (.newcoro _ _) _,u| .ok (.coroswitch _ _) _,u| .ok (.sleep _) _,u| .ok (.timer _) _,u| .ok (.alone _ _) _,u
 | .ok (.callThen _ _ _ _) _,u| .ok (.stack _ _) _,u| .halt _ _,u=>u.elim
theorem mB.x{K:VK}{X:XK}(h:mB P s K w):Ho P s K X w:=λw0 hw=>PK _ (h w0 hw)
theorem JZ{P:Program}{K J:VK}{X X':XK}(h:∀v w,K v w->J v w)(z:∀ch w,X ch w->X' ch w):∀r,Hn P K X r->Hn P J X' r
 | .ok (.value _) _,u=>h _ _ u
 | .ok .skip _,u=>h _ _ u
 | .ok (.enter _ _) _,u=>awq u λe _ he=>by
  cases e with
  |returned v=>exact h _ _ he
  |panicked ch=>exact z _ _ he
  |outgrown=>exact he
 | .ok (.row _ _) _,u=>RowsIn.mono u λ_ _ A=>h _ _ A
 | .ok (.round _ _ _ _ _) _,u=>RoundIn.mono u λ_ _ ⟨v,he,A⟩=>⟨v,he,h _ _ A⟩
 | .halt (.panic _) _,u=>z _ _ u
 | .ok (.defer _) _,u| .ok .recover _,u| .ok (.spawn _) _,u| .ok (.comm _ _ _) _,u| .ok .numGoroutine _,u| .ok .collect _,u
 | .ok (.watch _) _,u| .ok (.newcoro _ _) _,u| .ok (.coroswitch _ _) _,u| .ok (.sleep _) _,u| .ok (.timer _) _,u| .ok (.alone _ _) _,u
 | .ok (.callThen _ _ _ _) _,u| .ok (.stack _ _) _,u=>u.elim
 | .halt x w,u=>by
  cases x with
  |panic v=>exact z _ _ u
  |_=>exact u.elim
theorem Ho.vA{K u:VK}{X X':XK}(A:Ho P s K X w)(h:∀v w,K v w->u v w)(z:∀ch w,X ch w->X' ch w):Ho P s u X' w:=λw0 hw=>JZ h z _ (A w0 hw)
theorem Ho.mono{K u:VK}{X:XK}(z:Ho P s K X w)(h:∀v w,K v w->u v w):Ho P s u X w:=z.vA h λ_ _ h=>h
section
variable {P:Program} {r:Option Nat} {Q:Exit->Act->World->Prop}
theorem LU{o:Oper}{a:Act}{K:Act->World->Prop}{X:XK}{w0:World}(V:∀ch u,X ch (z u)->Q (.panic ch) a u)(h:Ho P (execOp a.eval o) (λv u=>K (a.put o.dst v) u) X (z w0)):o.wpIn (Fw r) 0 P a w0 (λY u=>K Y (z u)) Q:=by
 refine⟨λf _=>Yt,?_⟩;have h:=h w0 rfl;have hs:(o.semAt (Fw r).round a.eval).run P w0=(execOp a.eval o).run P w0:=by
  cases r with
  |none=>rfl
  |some l=>
   by_cases hd:∃c,o.op=.defer c
   .obtain⟨c,O⟩:=hd;unfold Oper.semAt;unfold execOp at h|-;rw[O] at h|-;simp only[asI] at h|-;cases W:(resolve a.eval c o.type).run P w0 with
    |ok v w=>rw[W] at h;exact h.elim
    |halt x w=>rfl
   .rw[show(Fw (some l)).round=some l from rfl,Oper.semAt_some l _ _ λc O=>hd ⟨c,O⟩]
 rw[hs];generalize (execOp a.eval o).run P w0=res at h;cases res with
 |halt x u=>
  cases x with
  |panic v=>exact V _ _ h
  |_=>exact h.elim
 |ok x u=>
  cases x<;>simp only[Hn] at h<;>simp only[Oper.uponIn];case value v=>exact h
  case skip=>exact h
  case enter f args=>exact⟨λJ=>(by cases J),awq h λe A he=>by
   cases e with
   |returned v=>exact he
   |panicked ch=>exact V _ _ he
   |outgrown=>exact he.elim⟩
  case row row args=>exact⟨λJ=>(by cases J),RowsIn.mono h λv A M=>M⟩
  case round l f tmps assign body=>exact⟨λJ=>(by cases J),RoundIn.mono h λe A ⟨v,he,M⟩=>by subst he;exact M⟩
end
section
variable {P:Program} {ops:Array Oper} {Q:Act->World->Prop} {X:XK} {S:World->Prop} {md:Region.Mode}
def Ed(P:Program)(ops:Array Oper)(X:XK)(i:Nat)(K:Act->World->Prop)(a:Act)(w:World):Prop:=
 match ops[i]? with
 |none=>K a w
 |some o=>if Region.wanted o (yielded ops a.tmps) then Ho P (execOp a.eval o) (λv w'=>K (a.put o.dst v) w') X w else K (a.put o.dst undef) w
theorem vB{z:Act->World->Prop}(h:∀a w,K a w->z a w)(u:Ed P ops X i K a w):Ed P ops X i z a w:=by
 unfold Ed at*;split
 .exact h _ _ (by simpa[*] using u)
 .rename_i o A;simp only[A] at u;split
  .rename_i hw;simp only[hw,auM] at u;exact u.mono λ_ _=>h _ _
  .rename_i hw;simp only[hw] at u;exact h _ _ u
def hasB(B:List Nat)(l:Array Bool):Bool:=B.any λb=>l.getD b false
def mC(P:Program)(md:Region.Mode)(ops:Array Oper)(Q:Act->World->Prop)(X:XK)(B:List Nat)(S:World->Prop):Nat->Array Bool->Act->World->Prop
 |0,listed,a,w=>Region.ready md ops listed=[]/\Q a w
 |fuel+1,listed,a,w=>
  (Region.ready md ops listed=[]->Q a w)/\
  ∀i∈Region.ready md ops listed,Ed P ops X i (λa' w'=>(hasB B (listed.setIfInBounds i true)=false->S w')/\mC P md ops Q X B S fuel (listed.setIfInBounds i true) a' w') a w
theorem xm{B:List Nat}{u:World->Prop}(hs:∀w,u w->S w):∀(fuel:Nat) (listed:Array Bool) (a:Act) (w:World),mC P md ops Q X B u fuel listed a w->mC P md ops Q X B S fuel listed a w
 |0,_,_,_,h=>h
 |fuel+1,_,_,_,h=>⟨h.1,λi hi=>vB (λJ z h'=>⟨λA=>hs _ (h'.1 A),xm hs fuel _ J z h'.2⟩) (h.2 i hi)⟩
theorem nu(h:i∈Region.ready md ops listed):listed.getD i true=false:=(avm.1 h).1
theorem PL{b:Nat}(u:b∈B)(h:l.getD b false=true):hasB B l=true:=auY.2 ⟨b,u,h⟩
theorem rh{B:List Nat}{l:Array Bool}{i:Nat}(hi:i∉B):hasB B (l.setIfInBounds i true)=hasB B l:=by
 unfold hasB;have key:∀u:List Nat,i∉u->(u.any λb=>(l.setIfInBounds i true).getD b false)=u.any λb=>l.getD b false:=by
  intro u;induction u with
  |nil=>intro _;rfl
  |cons b r z=>
   intro h;rw[avG,avG,z λh'=>h (ast _ h'),getD_set_ne false λe=>h (by rw[e];exact ass)]
 exact key B hi
def Cl(md:Region.Mode)(ops:Array Oper)(l:Array Bool):Prop:=∀k ok,ops[k]? =some ok->l.getD k false=true->∀e∈ok.after,Region.binds md e=true->l.getD e.on false=true
theorem getD_set_true{k:Nat}(h:l.getD k false=true):(l.setIfInBounds i true).getD k false=true:=by
 by_cases e:i=k
 .subst e;rcases auG i l.size with h'|h'
  .simp[h']
  .simp[avc h'] at h
 .rw[getD_set_ne false e];exact h
theorem Cl.set(h:Cl md ops l)(hi:i∈Region.ready md ops l):Cl md ops (l.setIfInBounds i true):=by
 intro k ok hk A e he J;obtain⟨_,O,z,u⟩:=avm.1 hi;by_cases M:i=k
 .subst M;rw[z] at hk;injection hk with hk;subst hk;exact getD_set_true (u e he J)
 .rw[getD_set_ne false M] at A;exact getD_set_true (h k ok hk A e he J)
theorem Cl.bH(n:Nat):Cl md ops (Array.replicate n false):=by
 intro k ok _ u;exfalso;rcases auG k n with h'|h'
 .simp[h'] at u
 .exact Yg
theorem Hp{B:List Nat}{O:World->Prop}:∀(fuel:Nat) (listed:Array Bool) (a:Act) (w:World),(∀i,listed.getD i true=false->i∈B)->mC P md ops Q X [] O fuel listed a w->mC P md ops Q X B S fuel listed a w
 |0,_,_,_,_,h=>h
 |fuel+1,listed,_,_,hu,h=>⟨h.1,λi hi=>vB (λM J h'=>⟨λA=>(by
  have z:=nu hi
  have u:i<listed.size:=by
   rcases auG i listed.size with h'|h'
   .exact h'
   .simp[avc h'] at z
  have:=PL (l:=listed.setIfInBounds i true) (hu i z) (by simp[u])
  rw[this] at A;cases A),Hp fuel _ M J (λk hk=>by
   by_cases e:i=k
   .subst e;exact hu i (nu hi)
   .rw[getD_set_ne true e] at hk;exact hu k hk) h'.2⟩) (h.2 i hi)⟩
theorem jD{B:List Nat}{r:Option Nat}{Z:Exit->Act->World->Prop}{Inv:Act->Prop}(M:∀a (o:Oper) v,o∈ops.toList->Inv a->Inv (a.put o.dst v))(J:∀a w,Q a (z w)->Z .normal a w)(W:∀ch a w,Inv a->X ch (z w)->Z (.panic ch) a w):∀(fuel:Nat) (listed:Array Bool) (a:Act) (w0:World),Inv a->mC P md ops Q X B S fuel listed a (z w0)->wpAnyIn (Fw r) 0 P md ops Z fuel listed a w0
 |0,_,_,_,_,h=>⟨h.1,J _ _ h.2⟩
 |fuel+1,listed,a,w0,V,h=>⟨λh0=>J _ _ (h.1 h0),λi hi=>by
  have u:=h.2 i hi
  unfold Ed at u
  unfold wpOpIn
  cases O:ops[i]? with
  |none=>simp only[O] at u|-;exact jD M J W fuel _ a w0 V u.2
  |some o=>
   simp only[O] at u|-
   split
   .rename_i hw
    simp only[hw,auM] at u
    have h3:=LU (r:=r) (Q:=Z) (K:=λY A=>Inv Y/\mC P md ops Q X B S fuel (listed.setIfInBounds i true) Y A) (λch A hx=>W ch a A V hx) (u.mono λv A h'=>⟨M a o v (asq (by simpa using O)) V,h'.2⟩)
    exact Oper.wpIn_mono (λY A h'=>jD M J W fuel _ Y A h'.1 h'.2) h3
   .rename_i hw
    simp only[hw] at u
    exact⟨λ_ _=>Yt,jD M J W fuel _ _ w0 (M a o undef (asq (by simpa using O)) V) u.2⟩⟩
theorem wp_region_any{r:Option Nat}{id:Nat}{Q':Exit->Act->World->Prop}{Inv:Act->Prop}{w0:World}(hm:P.follows .mixedOrders=true)(hI:∀a (o:Oper) v,o∈ops.toList->Inv a->Inv (a.put o.dst v))(hQ:∀a w,Q a (z w)->Q' .normal a w)(hX:∀ch a w,Inv a->X ch (z w)->Q' (.panic ch) a w)(ha:Inv a)(h:mC P .any ops Q X B S ops.size (Array.replicate ops.size false) a (z w0)):(Code.region id ops true).wpIn (Fw r) 0 P Q' a w0:=wpIn_region_any hm (jD hI hQ hX _ _ _ _ ha h)
def iK(P:Program)(ops:Array Oper)(S:World->Prop)(o:Oper)(v:Value)(a:Act):Prop:=(Region.wanted o (yielded ops a.tmps)=true/\∀w,S w->mB P (execOp a.eval o) (λu w'=>u=v/\w'=w) w)\/(Region.wanted o (yielded ops a.tmps)=false/\v=undef)
theorem iK.Ed{o:Oper}(hi:ops[i]? =some o)(z:iK P ops S o v a)(J:S w)(h:K (a.put o.dst v) w):Ed P ops X i K a w:=by
 unfold Proofs.YtakcjkbnfegidaaGreat.Ed;simp only[hi];rcases z with⟨hw,A⟩|⟨hw,rfl⟩
 .simp only[hw,auM];exact((A w J).mono λu M ⟨V,O⟩=>Yg).x
 .exact Yg
theorem iK.of_same{o:Oper}{u:Act}(z:iK P ops S o v a)(he:execOp u.eval o=execOp a.eval o)(hw:Region.wanted o (yielded ops u.tmps)=Region.wanted o (yielded ops a.tmps)):iK P ops S o v u:=by
 unfold iK at*;rw[he,hw];exact z
theorem LW{j:Nat}{z A:Oper}(hj:ops[j]? =some A)(V:z.apart ops A=true)(O:∀cs b,z.op≠.select cs b)(M:∀cs b,A.op≠.select cs b)(J:iK P ops S z v a)(h:Ed P ops X j K (a.put z.dst v) w):Ed P ops X j (λa' W=>iK P ops S z v a'/\K (a'.put z.dst v) W) a w:=by
 obtain⟨h1,Z,Y⟩:=Oper.apart_spec V;have di:∀(a:Act),iK P ops S z v a->∀u,iK P ops S z v (a.put A.dst u):=λa J u=>
  J.of_same (execOp_put z O a A.dst u Y) (wanted_put z a A.dst u Y)
 unfold Ed at*;simp only[hj] at*;rw[wanted_put A a z.dst v h1] at h;split
 .rename_i hw;simp only[hw,auM] at h;rw[execOp_put A M a z.dst v h1] at h;exact h.mono λu W hu=>⟨di a J u,by rw[<-Act.put_comm a v u Z];exact hu⟩
 .rename_i hw;simp only[hw] at h;exact⟨di a J _,by rw[<-Act.put_comm a v undef Z];exact h⟩
theorem J0{B:List Nat}{i:Nat}{oi:Oper}{v:Value}(hi:ops[i]? =some oi)(a6:∀(j:Nat) (o:Oper) cs b,ops[j]? =some o->o.op≠.select cs b)(hiB:∀b∈B,∀l,Cl md ops l->b∈Region.ready md ops l->l.getD i false=true):∀(fuel:Nat) (listed:Array Bool) (a:Act) (w:World),(∀j oj,ops[j]? =some oj->j≠i->listed.getD j true=false->(∀e∈oj.after,Region.binds md e=true->e.on≠i)->oi.apart ops oj=true)->Cl md ops listed->i∈Region.ready md ops listed->hasB B listed=false->iK P ops S oi v a->S w->mC P md ops Q X B S fuel (listed.setIfInBounds i true) (a.put oi.dst v) w->mC P md ops Q X B S (fuel+1) listed a w:=by
 have V:∀(listed:Array Bool) (j:Nat),Cl md ops listed->i∈Region.ready md ops listed->j∈Region.ready md ops listed->j∉B:=λlisted j hc hr hj J=>by have h1:=hiB j J listed hc hj;have h0:=nu hr;exact adu
 intro fuel;induction fuel with
 |zero=>
  intro listed a w _ _ hr _ hy hS H;refine⟨λh=>(by rw[h] at hr;cases hr),λj hj=>?_⟩;by_cases hji:j=i
  .subst hji;exact hy.Ed hi hS ⟨λ_=>hS,H⟩
  .have:=avR hj hji;rw[H.1] at this;cases this
 |succ fuel ih=>
  intro listed a w hfree a8 hr hB hy hS H;refine⟨λh=>(by rw[h] at hr;cases hr),λj hj=>?_⟩;by_cases hji:j=i
  .subst hji;exact hy.Ed hi hS ⟨λ_=>hS,H⟩
  .have h1:=H.2 j (avR hj hji);have J:=V listed j a8 hr hj;have af:=V listed i a8 hr hr;have hb1:hasB B (listed.setIfInBounds j true)=false:=by rw[rh J];exact hB
   have hb2:hasB B ((listed.setIfInBounds i true).setIfInBounds j true)=false:=by rw[rh J,rh af];exact hB
   obtain⟨hjun,oj,a7,hall⟩:=avm.1 hj;have aa:∀e∈oj.after,Region.binds md e=true->e.on≠i:=λe he hb heq=>by have h1:=hall e he hb;have h0:=(avm.1 hr).1;rw[heq] at h1;exact adu
   have h2:=LW a7 (hfree j oj a7 hji hjun aa) (λcs b=>a6 i oi cs b hi) (λcs b=>a6 j oj cs b a7) hy h1;have O:∀k ok,ops[k]? =some ok->k≠i->(listed.setIfInBounds j true).getD k true=false->(∀e∈ok.after,Region.binds md e=true->e.on≠i)->oi.apart ops ok=true:=λk ok hk hki hun hno=>by
    exact Yf
   refine vB (λa' w' h3=>⟨λ_=>h3.2.1 hb2,ih (listed.setIfInBounds j true) a' w' O (a8.set hj) (avR hr (Ne.symm hji)) hb1 h3.1 (h3.2.1 hb2) ?_⟩) h2;rw[avv _ _ hji];exact h3.2.2
theorem Hq{B:List Nat}{i:Nat}{oi:Oper}{v:Value}(hi:ops[i]? =some oi)(O:∀(j:Nat) (o:Oper) cs b,ops[j]? =some o->o.op≠.select cs b)(hiB:i∉B):∀(fuel:Nat) (listed:Array Bool) (a:Act) (w:World),(∀j V,ops[j]? =some V->j≠i->listed.getD j true=false->(∀e∈V.after,Region.binds md e=true->e.on≠i)->oi.apart ops V=true)->i∈Region.ready md ops listed->iK P ops (λ_=>True) oi v a->(hasB B listed=false->S w)->mC P md ops Q X B S fuel (listed.setIfInBounds i true) (a.put oi.dst v) w->mC P md ops Q X B S (fuel+1) listed a w:=by
 intro fuel;induction fuel with
 |zero=>
  intro listed a w _ hr hy hS H;refine⟨λh=>(by rw[h] at hr;cases hr),λj hj=>?_⟩;by_cases hji:j=i
  .exact YG
  .have:=avR hj hji;rw[H.1] at this;cases this
 |succ fuel ih=>
  intro listed a w hfree hr hy hS H;refine⟨λh=>(by rw[h] at hr;cases hr),λj hj=>?_⟩;by_cases hji:j=i
  .exact YG
  .have h1:=H.2 j (avR hj hji);obtain⟨hjun,V,a6,hall⟩:=avm.1 hj;have a7:∀e∈V.after,Region.binds md e=true->e.on≠i:=λe he hb heq=>by have h1:=hall e he hb;have h0:=(avm.1 hr).1;rw[heq] at h1;exact adu
   have h2:=LW a6 (hfree j V a6 hji hjun a7) (λcs b=>O i oi cs b hi) (λcs b=>O j V cs b a6) hy h1;have J:∀k ok,ops[k]? =some ok->k≠i->(listed.setIfInBounds j true).getD k true=false->(∀e∈ok.after,Region.binds md e=true->e.on≠i)->oi.apart ops ok=true:=λk ok hk hki hun hno=>by
    exact Yf
   have a8:hasB B (listed.setIfInBounds j true)=false->hasB B ((listed.setIfInBounds i true).setIfInBounds j true)=false:=λhb=>by rw[avv _ _ λe=>hji e.symm,rh hiB];exact hb
   refine vB (λa' w' h3=>⟨λhb=>h3.2.1 (a8 hb),ih (listed.setIfInBounds j true) a' w' J (avR hr (Ne.symm hji)) h3.1 (λhb=>h3.2.1 (a8 hb)) ?_⟩) h2;rw[avv _ _ hji];exact h3.2.2
theorem AD{u:Oper}{fuel:Nat}(hi:ops[i]? =some u)(hs:Region.noSelect ops=true)(M:Region.free md ops listed i=true)(J:(Region.ready md ops listed).contains i=true)(z:i∉B)(A:iK P ops (λ_=>True) u v a)(O:S w)(h:mC P md ops Q X B S fuel (listed.setIfInBounds i true) (a.put u.dst v) w):mC P md ops Q X B S (fuel+1) listed a w:=Hq hi (Region.noSelect_spec hs) z fuel listed a w (Region.free_spec hi M) (by simpa using J) A (λ_=>O) h
theorem Ee{u:Oper}{fuel:Nat}(hi:ops[i]? =some u)(hs:Region.noSelect ops=true)(O:Region.free md ops listed i=true)(M:(Region.ready md ops listed).contains i=true)(z:∀b∈B,∀l,Cl md ops l->b∈Region.ready md ops l->l.getD i false=true)(W:hasB B listed=false)(A:Cl md ops listed)(J:iK P ops S u v a)(V:S w)(h:mC P md ops Q X B S fuel (listed.setIfInBounds i true) (a.put u.dst v) w):mC P md ops Q X B S (fuel+1) listed a w:=J0 hi (Region.noSelect_spec hs) z fuel listed a w (Region.free_spec hi O) A (by simpa using M) W J V h
theorem Hr{rs:List Nat}{fuel:Nat}(A:Region.ready md ops listed=rs)(u:rs≠[])(h:∀i∈rs,Ed P ops X i (λM z=>(hasB B (listed.setIfInBounds i true)=false->S z)/\mC P md ops Q X B S fuel (listed.setIfInBounds i true) M z) a w):mC P md ops Q X B S (fuel+1) listed a w:=⟨λJ=>absurd (A▸J) u,A▸h⟩
theorem NF{B:List Nat}{listed:Array Bool}{a:Act}{w:World}(u:Region.ready md ops listed=[])(h:Q a w):∀fuel,mC P md ops Q X B S fuel listed a w
 |0=>⟨u,h⟩
 |_+1=>⟨λ_=>h,by rw[u];simp⟩
end
end Go.Proofs.YtakcjkbnfegidaaGreat
namespace Go.Proofs.YtakcjkbnfegidaaGreat
open Go Tryz
variable{k:IntKind}{p:Prop}{K:Value->Prop}{P:Program}{s:Sem Next}{op:BinOp}{a b:Int}{t:TypeId}{i m x:Value}{S:World->Prop}{args:Array Value}{w:World}{X:XK}{o:Oper}
abbrev Fr:=Nat->Value
abbrev KK:=Exit->Fr->List Deferred->World->Prop
def fH(F:Fr)(d:Nat)(v:Value):Fr:=λj=>bif Nat.beq j d then v else F j
def de(F:Fr)(d:Option Nat)(v:Value):Fr:=match d with|some d=>fH F d v|none=>F
def ev(F:Fr):Operand->Value
 | .tmp t=>F t
 | .const v=>v
 | .global g=>.pointer (some ⟨g,0,none⟩)
 | .func f=>.func (.func f) #[] #[]
def Dy:IntKind->Nat
 | .i8=>0| .i16=>1| .i32=>2| .i64=>3| .u8=>4| .u16=>5| .u32=>6| .u64=>7
theorem zH{j:IntKind}(h:Nat.beq (Dy j) (Dy k)=true):j=k:=by cases j<;>cases k<;>first|rfl|cases h
def vS(s:Sem Value):Sem Next:=do pure (.value (<-s))
def uS(s:Sem Unit):Sem Next:=do s;pure .skip
structure nU (p:Prop) [Decidable p] (K:Value->Prop):Prop where
 fI::
 fR:(p->K (.bool true))/\(¬p->K (.bool false))
theorem LX[Decidable p]:nU p K=((p->K (.bool true))/\(¬p->K (.bool false))):=propext ⟨λh=>h.fR,λh=>⟨h⟩⟩
theorem nU.both[Decidable p](h:nU p K):(p->K (.bool true))/\(¬p->K (.bool false)):=by rw[LX] at h;exact h
theorem nU.of[Decidable p](h:(p->K (.bool true))/\(¬p->K (.bool false))):nU p K:=by rw[LX];exact h
theorem nU.val[Decidable p](h:nU p K):K (.bool (decide p)):=by
 by_cases u:p
 .rw[asE u];exact h.both.1 u
 .rw[asG u];exact h.both.2 u
structure AE (P:Program) (s:Sem Next) (K:Value->Prop):Prop where
 fI::
 fR:fq P s K
theorem iP:AE P s K=(fq P s K):=propext ⟨λh=>h.fR,λh=>⟨h⟩⟩
structure PM (k:IntKind) (n:Int) (K:Value->Prop):Prop where
 fI::
 fR:K (.int k (k.wrap n))
theorem pR{n:Int}:PM k n K=(K (.int k (k.wrap n))):=propext ⟨λh=>h.fR,λh=>⟨h⟩⟩
structure J1 (op:BinOp) (k:IntKind) (a b:Int) (K:Value->Prop):Prop where
 fI::
 fR:K (.int k (bits op k a b))
theorem mR:J1 op k a b K=(K (.int k (bits op k a b))):=propext ⟨λh=>h.fR,λh=>⟨h⟩⟩
structure PN (k:IntKind) (a b:Int) (K:Value->Prop):Prop where
 fI::
 fR:b≠0/\K (.int k (k.wrap (a.tdiv b)))
theorem vC:PN k a b K=(b≠0/\K (.int k (k.wrap (a.tdiv b)))):=propext ⟨λh=>h.fR,λh=>⟨h⟩⟩
structure PO (k:IntKind) (a b:Int) (K:Value->Prop):Prop where
 fI::
 fR:b≠0/\K (.int k (a.tmod b))
theorem zJ:PO k a b K=(b≠0/\K (.int k (a.tmod b))):=propext ⟨λh=>h.fR,λh=>⟨h⟩⟩
structure ajR (k:IntKind) (a b:Int) (K:Value->Prop):Prop where
 fI::
 fR:0<=b/\K (.int k (k.wrap (a*2 ^ (min b.toNat k.bits))))
theorem LY:ajR k a b K=(0<=b/\K (.int k (k.wrap (a*2 ^ (min b.toNat k.bits))))):=propext ⟨λh=>h.fR,λh=>⟨h⟩⟩
structure UH (k:IntKind) (a b:Int) (K:Value->Prop):Prop where
 fI::
 fR:0<=b/\K (.int k (a.fdiv (2 ^ (min b.toNat k.bits))))
theorem zK:UH k a b K=(0<=b/\K (.int k (a.fdiv (2 ^ (min b.toNat k.bits))))):=propext ⟨λh=>h.fR,λh=>⟨h⟩⟩
structure AF (P:Program) (op:BinOp) (t:TypeId) (xo yo:Operand) (x y:Value) (K:Value->Prop):Prop where
 fI::
 fR:fq P (vS (do eqGuard op t xo yo x y;binOp op t x y)) K
theorem ke{z u:Operand}{y:Value}:AF P op t z u x y K=(fq P (vS (do eqGuard op t z u x y;binOp op t x y)) K):=propext ⟨λh=>h.fR,λh=>⟨h⟩⟩
structure Ef (P:Program) (src dst:TypeId) (x:Value) (K:Value->Prop):Prop where
 fI::
 fR:fq P (vS (convert src dst x)) K
theorem AG{src dst:TypeId}:Ef P src dst x K=(fq P (vS (convert src dst x)) K):=propext ⟨λh=>h.fR,λh=>⟨h⟩⟩
structure PQ (P:Program) (s:TypeId) (x:Value) (f:Nat) (K:Value->Prop):Prop where
 fI::
 fR:fq P (vS (Instr.fieldAt s x f)) K
theorem AH{s:TypeId}{f:Nat}:PQ P s x f K=(fq P (vS (Instr.fieldAt s x f)) K):=propext ⟨λh=>h.fR,λh=>⟨h⟩⟩
structure PR (P:Program) (t:TypeId) (x:Value) (f:Nat) (K:Value->Prop):Prop where
 fI::
 fR:fq P (vS (Instr.field t x f)) K
theorem AJ{f:Nat}:PR P t x f K=(fq P (vS (Instr.field t x f)) K):=propext ⟨λh=>h.fR,λh=>⟨h⟩⟩
structure LZ (P:Program) (t:TypeId) (x i:Value) (K:Value->Prop):Prop where
 fI::
 fR:fq P (vS (Instr.indexAt t x i)) K
theorem vD:LZ P t x i K=(fq P (vS (Instr.indexAt t x i)) K):=propext ⟨λh=>h.fR,λh=>⟨h⟩⟩
structure Xd (P:Program) (t:TypeId) (x i:Value) (K:Value->Prop):Prop where
 fI::
 fR:fq P (vS (Instr.index t x i)) K
theorem Hs:Xd P t x i K=(fq P (vS (Instr.index t x i)) K):=propext ⟨λh=>h.fR,λh=>⟨h⟩⟩
structure PS (P:Program) (t:TypeId) (x:Value) (lo hi mx:Option Value) (K:Value->Prop):Prop where
 fI::
 fR:fq P (vS (Instr.sliceAt t x lo hi mx)) K
theorem vE{lo hi mx:Option Value}:PS P t x lo hi mx K=(fq P (vS (Instr.sliceAt t x lo hi mx)) K):=propext ⟨λh=>h.fR,λh=>⟨h⟩⟩
structure Zz (P:Program) (t:TypeId) (x:Value) (K:Value->Prop):Prop where
 fI::
 fR:fq P (vS (Builtin.len_ #[t] 0 #[x])) K
theorem FF:Zz P t x K=(fq P (vS (Builtin.len_ #[t] 0 #[x])) K):=propext ⟨λh=>h.fR,λh=>⟨h⟩⟩
structure ZA (P:Program) (t:TypeId) (ps:Array (Nat×Value)) (K:Value->Prop):Prop where
 fI::
 fR:fq P (vS (Instr.build t ps)) K
theorem FG{ps:Array (Nat×Value)}:ZA P t ps K=(fq P (vS (Instr.build t ps)) K):=propext ⟨λh=>h.fR,λh=>⟨h⟩⟩
structure kg (P:Program) (S:World->Prop) (t:TypeId) (x:Value) (K:Value->Prop):Prop where
 fI::
 fR:∃v,(∀w,S w->mB P (vS (Instr.loadAt t x)) (λu w'=>u=v/\w'=w) w)/\K v
theorem ri:kg P S t x K=(∃v,(∀w,S w->mB P (vS (Instr.loadAt t x)) (λu z=>u=v/\z=w) w)/\K v):=propext ⟨λh=>h.fR,λh=>⟨h⟩⟩
structure Ht (P:Program) (S:World->Prop) (t:TypeId) (x i:Value) (ok:Bool) (K:Value->Prop):Prop where
 fI::
 fR:∃v,(∀w,S w->mB P (vS (Instr.lookup t x i ok)) (λu w'=>u=v/\w'=w) w)/\K v
theorem pc{ok:Bool}:Ht P S t x i ok K=(∃v,(∀w,S w->mB P (vS (Instr.lookup t x i ok)) (λu z=>u=v/\z=w) w)/\K v):=propext ⟨λh=>h.fR,λh=>⟨h⟩⟩
structure ZB (P:Program) (S:World->Prop) (t:TypeId) (x:Value) (K:Value->Prop):Prop where
 fI::
 fR:∃v,(∀w,S w->mB P (vS (Builtin.len_ #[t] 0 #[x])) (λu w'=>u=v/\w'=w) w)/\K v
theorem zL:ZB P S t x K=(∃v,(∀w,S w->mB P (vS (Builtin.len_ #[t] 0 #[x])) (λu z=>u=v/\z=w) w)/\K v):=propext ⟨λh=>h.fR,λh=>⟨h⟩⟩
structure L1 (P:Program) (S:World->Prop) (f:FuncId) (args:Array Value) (K:Value->Prop):Prop where
 fI::
 fR:∃v,(∀w,S w->mB P (callFunc f args) (λu w'=>u=v/\w'=w) w)/\K v
theorem AK{f:FuncId}:L1 P S f args K=(∃v,(∀w,S w->mB P (callFunc f args) (λu z=>u=v/\z=w) w)/\K v):=propext ⟨λh=>h.fR,λh=>⟨h⟩⟩
structure xA (P:Program) (t:TypeId) (a v:Value) (K:VK) (w:World):Prop where
 fI::
 fR:mB P (uS (Instr.storeAt t a v)) K w
theorem sN{a v:Value}{K:VK}:xA P t a v K w=(mB P (uS (Instr.storeAt t a v)) K w):=propext ⟨λh=>h.fR,λh=>⟨h⟩⟩
structure J2 (P:Program) (e:TypeId) (K:VK) (w:World):Prop where
 fI::
 fR:mB P (vS (Instr.alloc e true (.tuple #[]))) K w
theorem xB{e:TypeId}{K:VK}:J2 P e K w=(mB P (vS (Instr.alloc e true (.tuple #[]))) K w):=propext ⟨λh=>h.fR,λh=>⟨h⟩⟩
structure ZC (P:Program) (e:TypeId) (v:Value) (K:VK) (w:World):Prop where
 fI::
 fR:mB P (vS (Instr.box e v)) K w
theorem FH{e:TypeId}{v:Value}{K:VK}:ZC P e v K w=(mB P (vS (Instr.box e v)) K w):=propext ⟨λh=>h.fR,λh=>⟨h⟩⟩
structure L3 (P:Program) (t:TypeId) (n:Nat) (ps:Array (Nat×Value)) (K:VK) (w:World):Prop where
 fI::
 fR:mB P (vS (Instr.buildSlice t n ps)) K w
theorem AL{n:Nat}{ps:Array (Nat×Value)}{K:VK}:L3 P t n ps K w=(mB P (vS (Instr.buildSlice t n ps)) K w):=propext ⟨λh=>h.fR,λh=>⟨h⟩⟩
structure PT (P:Program) (t:TypeId) (r:Option Value) (K:VK) (w:World):Prop where
 fI::
 fR:mB P (vS (Instr.makeMap t r)) K w
theorem AM{r:Option Value}{K:VK}:PT P t r K w=(mB P (vS (Instr.makeMap t r)) K w):=propext ⟨λh=>h.fR,λh=>⟨h⟩⟩
structure PU (P:Program) (t:TypeId) (l c:Value) (K:VK) (w:World):Prop where
 fI::
 fR:mB P (vS (Instr.makeSlice t l c)) K w
theorem AN{l c:Value}{K:VK}:PU P t l c K w=(mB P (vS (Instr.makeSlice t l c)) K w):=propext ⟨λh=>h.fR,λh=>⟨h⟩⟩
structure L5 (P:Program) (t:TypeId) (m k x:Value) (K:VK) (w:World):Prop where
 fI::
 fR:mB P (uS (Instr.mapUpdate t m k x)) K w
theorem pd{k:Value}{K:VK}:L5 P t m k x K w=(mB P (uS (Instr.mapUpdate t m k x)) K w):=propext ⟨λh=>h.fR,λh=>⟨h⟩⟩
structure PV (P:Program) (t:TypeId) (m k:Value) (K:VK) (w:World):Prop where
 fI::
 fR:mB P (vS (Instr.mapEntry t m k)) K w
theorem AO{k:Value}{K:VK}:PV P t m k K w=(mB P (vS (Instr.mapEntry t m k)) K w):=propext ⟨λh=>h.fR,λh=>⟨h⟩⟩
structure PW (P:Program) (t:TypeId) (m s x:Value) (K:VK) (w:World):Prop where
 fI::
 fR:mB P (uS (Instr.entryStore t m s x)) K w
theorem AP{s:Value}{K:VK}:PW P t m s x K w=(mB P (uS (Instr.entryStore t m s x)) K w):=propext ⟨λh=>h.fR,λh=>⟨h⟩⟩
structure vF (P:Program) (f:FuncId) (args:Array Value) (K:VK) (X:XK) (w:World):Prop where
 fI::
 fR:Ho P (callFunc f args) K X w
theorem AQ{f:FuncId}{K:VK}:vF P f args K X w=(Ho P (callFunc f args) K X w):=propext ⟨λh=>h.fR,λh=>⟨h⟩⟩
structure iQ (P:Program) (l:Nat) (args:Array Value) (K:VK) (w:World):Prop where
 fI::
 fR:mB P (Instr.yield l args) K w
theorem sR{l:Nat}{K:VK}:iQ P l args K w=(mB P (Instr.yield l args) K w):=propext ⟨λh=>h.fR,λh=>⟨h⟩⟩
structure DE (P:Program) (b:Builtin) (ts:Array TypeId) (ty:TypeId) (cs:Array Bool) (args:Array Value) (K:VK) (X:XK) (w:World):Prop where
 fI::
 fR:Ho P (builtin b ts ty cs args) K X w
theorem nZ{b:Builtin}{u:Array TypeId}{ty:TypeId}{cs:Array Bool}{K:VK}:DE P b u ty cs args K X w=(Ho P (builtin b u ty cs args) K X w):=propext ⟨λh=>h.fR,λh=>⟨h⟩⟩
structure xC (P:Program) (s:Sem Next) (K:VK) (X:XK) (w:World):Prop where
 fI::
 fR:Ho P s K X w
theorem fP{K:VK}:xC P s K X w=(Ho P s K X w):=propext ⟨λh=>h.fR,λh=>⟨h⟩⟩
structure nx (S:World->Prop) (w:World) (C:(World->Prop)->Prop):Prop where
 fI::
 fR:∃S':World->Prop,S' w/\(∀u,S' u->S u)/\C S'
theorem vG{C:(World->Prop)->Prop}:nx S w C=(∃z:World->Prop,z w/\(∀u,z u->S u)/\C z):=propext ⟨λh=>h.fR,λh=>⟨h⟩⟩
structure ZD (w:World) (C:(World->Prop)->Prop):Prop where
 fI::
 fR:∃S':World->Prop,S' w/\C S'
def NG(P:Program)(op:BinOp)(t:TypeId)(xo yo:Operand)(k:IntKind)(a b:Int)(K:Value->Prop):Prop:=
 match op with
 | .add=>PM k (a+b) K
 | .sub=>PM k (a-b) K
 | .mul=>PM k (a*b) K
 | .eql=>nU (a=b) K
 | .neq=>nU (a≠b) K
 | .lss=>nU (a<b) K
 | .leq=>nU (a<=b) K
 | .gtr=>nU (a>b) K
 | .geq=>nU (a>=b) K
 | .quo=>PN k a b K
 | .rem=>PO k a b K
 | .and=>J1 .and k a b K
 | .or=>J1 .or k a b K
 | .xor=>J1 .xor k a b K
 | .andNot=>J1 .andNot k a b K
 | .shl| .shr=>AF P op t xo yo (.int k a) (.int k b) K
def NH(P:Program)(op:BinOp)(t:TypeId)(xo yo:Operand)(x y:Value)(K:Value->Prop):Prop:=
 match x,y with
 | .int k a,.int k' b=>
  match op with
  | .shl=>ajR k a b K
  | .shr=>UH k a b K
  |op=>bif Nat.beq (Dy k) (Dy k') then NG P op t xo yo k a b K else False
 |x,y=>AF P op t xo yo x y K
def rj(P:Program)(o:Oper)(F:Fr)(K:Value->Prop):Prop:=
 match o.op with
 | .move x| .assign x=>K (ev F x)
 | .pick c a b=>match ev F c with| .bool true=>K (ev F a)| .bool false=>K (ev F b)|_=>False
 | .binOp op t x y _=>NH P op t x y (ev F x) (ev F y) K
 | .unOp op _ x=>match op,ev F x with
  | .not,.bool true=>K (.bool false)
  | .not,.bool false=>K (.bool true)
  | .neg,.int k n=>PM k (0-n) K
  |op,x=>AE P (vS (Op.unary op x)) K
 | .convert s d x=>Ef P s d (ev F x) K
 | .fieldAddr s x f=>PQ P s (ev F x) f K
 | .field t x f=>PR P t (ev F x) f K
 | .indexAddr t x i=>LZ P t (ev F x) (ev F i) K
 | .index t x i=>Xd P t (ev F x) (ev F i) K
 | .slice t x lo hi mx=>PS P t (ev F x) (lo.map (ev F)) (hi.map (ev F)) (mx.map (ev F)) K
 | .extract t i=>match ev F t with
  | .tuple vs=>match vs.toList[i]? with|some v=>K v|none=>False
  |_=>False
 | .nilCheck x=>match ev F x with
  | .pointer (some a)=>K (.pointer (some a))
  | .func (.func f) pre caps=>K (.func (.func f) pre caps)
  |_=>AE P (execOp (ev F) o) K
 | .makeFunc fn first captured=>K (.func fn (first.toList.map (ev F)).toArray (captured.toList.map (ev F)).toArray)
 | .build t ps=>ZA P t (ps.toList.map λp=>(p.1,ev F p.2)).toArray K
 | .call c=>match c.callee,c.args.toList.map (ev F) with
  | .builtin .len,[x]=>(match c.argTypes.toList with|t::_=>Zz P t x K|[]=>AE P (execOp (ev F) o) K)
  | .builtin .max,[.int k x,.int k' y]=>bif Nat.beq (Dy k) (Dy k') then K (.int k (max x y)) else False
  | .builtin .min,[.int k x,.int k' y]=>bif Nat.beq (Dy k) (Dy k') then K (.int k (min x y)) else False
  |_,_=>AE P (execOp (ev F) o) K
 |_=>AE P (execOp (ev F) o) K
def Eg(P:Program)(o:Oper)(c:Call)(F:Fr)(K:VK)(X:XK)(w:World):Prop:=
 match c.callee with
 | .value f=>match ev F f with
  | .func (.func k) pre caps=>vF P k (pre.toList++c.args.toList.map (ev F)++caps.toList).toArray K X w
  | .func (.yield l) pre _=>iQ P l (pre.toList++c.args.toList.map (ev F)).toArray K w
  |_=>xC P (execOp (ev F) o) K X w
 | .builtin b=>match b,c.args.toList.map (ev F) with
  | .len,[.map m]=>(match c.argTypes.toList with|t::_=>ZB P (λu=>u=w) t (.map m) (λv=>K v w)|[]=>xC P (execOp (ev F) o) K X w)
  | .len,_| .max,_| .min,_=>rj P o F λv=>K v w
  |b,args=>DE P b c.argTypes o.type (c.args.map λ| .const _=>true|_=>false) args.toArray K X w
 |_=>xC P (execOp (ev F) o) K X w
def ZE(P:Program)(o:Oper)(x:Value)(F:Fr)(K:VK)(X:XK)(w:World):Prop:=
 match x with
 | .slice _ _ _=>xC P (execOp (ev F) o) K X w
 | .string _=>xC P (execOp (ev F) o) K X w
 |_=>rj P o F λv=>K v w
def NJ(P:Program)(o:Oper)(F:Fr)(K:VK)(X:XK)(w:World):Prop:=
 match o.op with
 | .load t x=>kg P (λu=>u=w) t (ev F x) λv=>K v w
 | .lookup t x i ok=>Ht P (λu=>u=w) t (ev F x) (ev F i) ok λv=>K v w
 | .store t a x=>xA P t (ev F a) (ev F x) K w
 | .alloc e=>J2 P e K w
 | .box e x=>ZC P e (ev F x) K w
 | .buildSlice t n ps=>L3 P t n (ps.toList.map λp=>(p.1,ev F p.2)).toArray K w
 | .makeMap t r=>PT P t (r.map (ev F)) K w
 | .makeSlice t l c=>PU P t (ev F l) (ev F c) K w
 | .mapUpdate t m k x| .insert t m k x=>L5 P t (ev F m) (ev F k) (ev F x) K w
 | .mapEntry t m k=>PV P t (ev F m) (ev F k) K w
 | .entryStore t m s x=>PW P t (ev F m) (ev F s) (ev F x) K w
 | .call c=>Eg P o c F K X w
 | .convert _ _ x=>ZE P o (ev F x) F K X w
 | .move _| .assign _| .pick .. | .binOp .. | .unOp .. | .fieldAddr .. | .field .. | .indexAddr .. | .index .. | .slice .. | .extract .. | .nilCheck _| .makeFunc .. | .build ..=>
  rj P o F λv=>K v w
 |_=>xC P (execOp (ev F) o) K X w
def pS(P:Program)(S:World->Prop)(o:Oper)(F:Fr)(K:Value->Prop):Prop:=
 match o.op with
 | .load t x=>kg P S t (ev F x) K
 | .lookup t x i ok=>Ht P S t (ev F x) (ev F i) ok K
 | .call c=>match c.callee with
  | .value f=>match ev F f with
   | .func (.func k) pre caps=>L1 P S k (pre.toList++c.args.toList.map (ev F)++caps.toList).toArray K
   |_=>False
  | .builtin .len=>match c.args.toList.map (ev F) with
   |[.map m]=>(match c.argTypes.toList with|t::_=>ZB P S t (.map m) K|[]=>False)
   |_=>rj P o F K
  |_=>rj P o F K
 |_=>rj P o F K
def fv(v:Value)(K:Value->Prop):Prop:=
 match v with
 | .bool b=>K (.bool b)
 | .int k n=>K (.int k n)
 | .float k n=>K (.float k n)
 | .complex k a b=>K (.complex k a b)
 | .string s=>K (.string s)
 | .pointer a=>K (.pointer a)
 | .slice a n c=>K (.slice a n c)
 | .map r=>K (.map r)
 | .chan r=>K (.chan r)
 | .func f a b=>K (.func f a b)
 | .nilFunc=>K .nilFunc
 | .iface t v=>K (.iface t v)
 | .nilIface=>K .nilIface
 | .agg cs=>K (.agg cs)
 | .tuple vs=>K (.tuple vs)
theorem rk(v:Value)(K:Value->Prop):fv v K=K v:=by cases v<;>rfl
def jG(ops:List Oper)(o:Oper)(F:Fr)(A B:Prop):Prop:=
 match o.guard with
 |none=>A
 |some (j,want)=>match(ops[j]?).bind (·.dst) with
  |some d=>match F d with
   | .bool true=>(match want with|true=>A|false=>B)
   | .bool false=>(match want with|true=>B|false=>A)
   |_=>B
  |none=>B
def UI(P:Program)(ops:List Oper)(K:Fr->World->Prop)(X:XK)(os:List Oper):Fr->World->Prop:=List.rec (motive:=λ_=>Fr->World->Prop) (λF w=>K F w) (λo _ ih F w=>jG ops o F (NJ P o F (λv w=>fv v λv=>ih (de F o.dst v) w) X w) (ih (de F o.dst undef) w)) os
inductive iz where
 |done
 |take (i:Nat) (p:iz)
 |DF (i:Nat) (p:iz)
 |alt (i:Nat) (p q:iz)
 |UJ (p:iz)
def fA(P:Program)(ops:List Oper)(K:Fr->World->Prop)(X:XK)(p:iz):(World->Prop)->Fr->World->Prop:=
 iz.rec (motive:=λ_=>(World->Prop)->Fr->World->Prop) (λ_ F w=>K F w)
  (λi _ ih S F w=>match ops[i]? with
   |some o=>jG ops o F (pS P S o F λv=>fv v λv=>ih S (de F o.dst v) w) (ih S (de F o.dst undef) w)
   |none=>False)
  (λi _ ih S F w=>match ops[i]? with
   |some o=>jG ops o F (NJ P o F (λv w'=>fv v λv=>nx S w' λS'=>ih S' (de F o.dst v) w') X w) (nx S w λS'=>ih S' (de F o.dst undef) w)
   |none=>False)
  (λi _ _ ihp ihq S F w=>(match ops[i]? with
   |some o=>jG ops o F (NJ P o F (λv w'=>fv v λv=>nx S w' λS'=>ihp S' (de F o.dst v) w') X w) (nx S w λS'=>ihp S' (de F o.dst undef) w)
   |none=>False)/\ihq S F w)
  (λ_ ih _ F w=>ZD w λS'=>ih S' F w) p
section
variable {P:Program} {ops:List Oper} {K:Fr->World->Prop} {X:XK} {i:Nat} {p q:iz} {S:World->Prop} {F:Fr} {w:World}
theorem AR:fA P ops K X (.take i p) S F w=(match ops[i]? with
 |some o=>jG ops o F (pS P S o F λv=>fv v λv=>fA P ops K X p S (de F o.dst v) w) (fA P ops K X p S (de F o.dst undef) w)
 |none=>False):=rfl
theorem xD:fA P ops K X (.DF i p) S F w=(match ops[i]? with
 |some o=>jG ops o F (NJ P o F (λv z=>fv v λv=>nx S z λu=>fA P ops K X p u (de F o.dst v) z) X w) (nx S w λu=>fA P ops K X p u (de F o.dst undef) w)
 |none=>False):=rfl
theorem xG:fA P ops K X (.alt i p q) S F w=((match ops[i]? with
 |some o=>jG ops o F (NJ P o F (λv z=>fv v λv=>nx S z λu=>fA P ops K X p u (de F o.dst v) z) X w) (nx S w λu=>fA P ops K X p u (de F o.dst undef) w)
 |none=>False)/\fA P ops K X q S F w):=rfl
theorem Eh:fA P ops K X (.UJ p) S F w=ZD w (λu=>fA P ops K X p u F w):=rfl
end
def kh(f:Nat->iz):List Nat->iz
 |[]=>.done
 |[i]=>.DF i (f i)
 |i::is=>.alt i (f i) (kh f is)
noncomputable def L8 (n i:Nat):iz:=Nat.rec (motive:=λ_=>Nat->iz) (λ_=>.done) (λ_ ih i=>.take i (ih (i+1))) n i
noncomputable def sU (es is:List Nat):iz:=List.rec (motive:=λ_=>iz) .done (λi _ ih=>bif es.any (Nat.beq i) then .DF i ih else .take i ih) is
def iz.idx:iz->List Nat
 | .DF i _=>[i]
 | .alt i _ q=>i::q.idx
 |_=>[]
def iz.an:iz->Nat
 | .done=>0
 | .take _ p| .DF _ p=>p.an+1
 | .alt _ p q=>max (p.an+1) q.an
 | .UJ p=>p.an
def AS(ops:Array Oper)(b:Nat):Nat:=match ops[b]? with|some o=>o.after.toList.foldr (λe m=>bif Region.binds .any e then Nat.lor m (Nat.shiftLeft 1 e.on) else m) 0|none=>0
def od(ops:Array Oper)(m:Nat):List Nat->Nat
 |[]=>0
 |k::r=>bif Nat.testBit m k then Nat.lor (AS ops k) (od ops m r) else od ops m r
def ZF(ops:Array Oper):Nat->Nat->Nat
 |0,m=>m
 |n+1,m=>ZF ops n (Nat.lor m (od ops m (List.range ops.size)))
def pT(ops:Array Oper)(b i:Nat):Bool:=Nat.testBit (ZF ops 8 (AS ops b)) i
def FI(o:Oper):Bool:=match o.op with| .load .. | .lookup ..=>false| .call c=>(match c.callee with| .builtin .max| .builtin .min=>true|_=>false)|_=>true
def PX(ops:Array Oper)(i:Nat):Bool:=match ops[i]? with|some o=>FI o|none=>false
def dV(ops:Array Oper):Bool->List Nat->iz->Array Bool->Bool
 |top,_,.done,l=>top&&(Region.ready .any ops l).isEmpty
 |top,B,.take i p,l=>top&&((Region.ready .any ops l).contains i&&Region.free .any ops l i)&&((PX ops i&&!(B.any (Nat.beq i))) ||(!hasB B l&&B.all λb=>pT ops b i))&&dV ops true B p (l.setIfInBounds i true)
 |top,B,.DF i p,l=>(!top ||Region.ready .any ops l == [i])&&dV ops true B p (l.setIfInBounds i true)
 |top,B,.alt i p q,l=>(!top ||Region.ready .any ops l == i::q.idx)&&dV ops true B p (l.setIfInBounds i true)&&dV ops false B q l
 |top,B,.UJ p,l=>top&&((List.range l.size).all λj=>l.getD j true ||B.any (Nat.beq j))&&dV ops true [] p l
def pU(ops:Array Oper)(B:List Nat)(p:iz):Bool:=Region.noSelect ops&&dV ops true B p (Array.replicate ops.size false)&&Nat.ble p.an ops.size
structure mM (P:Program) (ops:Array Oper) (K:Fr->World->Prop) (X:XK) (F:Fr) (w:World):Prop where
 fI::
 fR:
 P.follows .mixedOrders=true/\∃(p:iz) (B:List Nat) (S:World->Prop),pU ops B p=true/\S w/\fA P ops.toList K X p S F w
theorem lZ{ops:Array Oper}{K:Fr->World->Prop}{F:Fr}:mM P ops K X F w=(P.follows .mixedOrders=true/\∃(p:iz) (B:List Nat) (S:World->Prop),pU ops B p=true/\S w/\fA P ops.toList K X p S F w):=propext ⟨λh=>h.fR,λh=>⟨h⟩⟩
structure yL (c:Code) (body:KK->Fr->List Deferred->World->Prop) (K:KK) (F:Fr) (ds:List Deferred) (w:World):Prop where
 fI::
 fR:
 ∃(I:Nat->Fr->List Deferred->World->Prop),(∃n,I n F ds w)/\
  ∀n F ds w,I n F ds w->body (λe F' ds' w'=>match e with| .normal=>∃m,m<n/\I m F' ds' w'|e=>K e F' ds' w') F ds w
theorem rm{c:Code}{body:KK->Fr->List Deferred->World->Prop}{K:KK}{F:Fr}{ds:List Deferred}:yL c body K F ds w=(∃(I:Nat->Fr->List Deferred->World->Prop),(∃n,I n F ds w)/\∀n F ds w,I n F ds w->body (λe A u z=>match e with| .normal=>∃m,m<n/\I m A u z|e=>K e A u z) F ds w):=propext ⟨λh=>h.fR,λh=>⟨h⟩⟩
def tJ(n:Nat)(a:Act)(F:Fr)(ds:List Deferred):Prop:=a.tmps.size=n/\(∀t,a.tmps.getD t undef=F t)/\a.defers=ds
def wfL(n:Nat)(ops:List Oper):Bool:=ops.all λo=>match o.dst with|some d=>Nat.blt d n|none=>true
def eO:Code->Bool
 | .seq a b| .cond _ a b=>eO a&&eO b
 | .block _ c| .loop c| .scope c=>eO c
 | .rangeFunc ..=>false
 |_=>true
def AU(n:Nat):Code->Bool
 | .seq a b| .cond _ a b=>AU n a&&AU n b
 | .block _ c| .loop c| .scope c=>AU n c
 | .region _ ops _=>wfL n ops.toList
 | .rangeFunc _ ps a b=>((AU n a&&AU n b)&&(eO a&&eO b))&&ps.toList.all λt=>Nat.blt t n
 |_=>true
structure FJ (P:Program) (c:Code) (K:KK) (F:Fr) (ds:List Deferred) (w:World):Prop where
 fI::
 fR:∀(a:Act) (w0:World),z w0=w->(∀t,a.tmps.getD t undef=F t)->a.defers=ds->AU a.tmps.size c=true->
  c.wpIn (Fw none) 0 P (λe a' w'=>a'.tmps=a.tmps/\K e F a'.defers (z w')) a w0
theorem xH{c:Code}{K:KK}{F:Fr}{ds:List Deferred}:FJ P c K F ds w=(∀(a:Act) (w0:World),z w0=w->(∀t,a.tmps.getD t undef=F t)->a.defers=ds->AU a.tmps.size c=true->c.wpIn (Fw none) 0 P (λe u A=>u.tmps=a.tmps/\K e F u.defers (z A)) a w0):=propext ⟨λh=>h.fR,λh=>⟨h⟩⟩
def xI(j:Nat):List Nat->Bool
 |[]=>false
 |x::r=>bif Nat.beq j x then true else xI j r
def wr(ops:List Oper):List Nat:=ops.filterMap (·.dst)
def vu(l:List Nat)(F F':Fr):Prop:=∀j,xI j l=false->F' j=F j
def V(P:Program)(c:Code):KK->Fr->List Deferred->World->Prop:=
 Code.rec (motive:=λ_=>KK->Fr->List Deferred->World->Prop)
  (λK F ds w=>K .normal F ds w)
  (λ_ ops draw K F ds w=>match draw with
   |false=>UI P ops.toList (λF' w'=>K .normal F' ds w') (λch w'=>∀F',vu (wr ops.toList) F F'->K (.panic ch) F' ds w') ops.toList F w
   |true=>mM P ops (λF' w'=>K .normal F' ds w') (λch w'=>∀F',vu (wr ops.toList) F F'->K (.panic ch) F' ds w') F w)
  (λ_ _ iha ihb K F ds w=>iha (λe=>match e with| .normal=>ihb K|e=>K e) F ds w)
  (λc _ _ iha ihb K F ds w=>match ev F c with| .bool true=>iha K F ds w| .bool false=>ihb K F ds w|_=>False)
  (λid _ ih K F ds w=>ih (λe=>match e with| .exit i=>bif Nat.beq i id then K .normal else K (.exit i)|e=>K e) F ds w)
  (λc ih K F ds w=>yL c ih K F ds w)
  (λg ps assign body _ _ K F ds w=>FJ P (.rangeFunc g ps assign body) K F ds w)
  (λid K F ds w=>K (.exit id) F ds w)
  (λ_ _ _ _ _ _=>False)
  (λ_ K F ds w=>K .normal F ds w)
  (λ_ _ _ _ _=>False)
  (λK F ds w=>K .ret F ds w)
  (λ_ _ _ _ _=>False) c
section
variable {P:Program} {K:KK} {F:Fr} {ds:List Deferred} {w:World} {a b c:Code} {id:Nat} {ops:Array Oper}
theorem J4{x:Operand}:V P (.cond x a b) K F ds w=(match ev F x with| .bool true=>V P a K F ds w| .bool false=>V P b K F ds w|_=>False):=rfl
theorem PY:V P (.region id ops true) K F ds w=mM P ops (λu z=>K .normal u ds z) (λch z=>∀u,vu (wr ops.toList) F u->K (.panic ch) u ds z) F w:=rfl
theorem J5:V P (.loop c) K F ds w=yL c (V P c) K F ds w:=rfl
theorem L9{g:Operand}{ps:Array Tmp}:V P (.rangeFunc g ps a b) K F ds w=FJ P (.rangeFunc g ps a b) K F ds w:=rfl
end
section
variable {P:Program}
theorem gG(s:Sem Value)(w:World):(vS s).run P w=(s.run P w).andThen (λv u=>.ok (.value v) u):=by
 simp[vS]
theorem vH(h:K x):fq P (pure (.value x)) K:=⟨x,λ_=>rfl,h⟩
theorem cW{s:Sem Value}(hs:∀w,s.run P w=.ok x w)(h:K x):fq P (vS s) K:=⟨x,λw=>by rw[gG,hs];rfl,h⟩
theorem Mb(a b:Int):(a == b)=decide (a=b):=Yg
theorem J7{J A:Operand}(z:op≠.shl/\op≠.shr)(h:NG P op t J A k a b K):fq P (vS (do eqGuard op t J A (.int k a) (.int k b);binOp op t (.int k a) (.int k b))) K:=by
 have g:∀op w,(eqGuard op t J A (.int k a) (.int k b)).run P w=.ok () w:=by intro op w;unfold eqGuard;cases op<;>rfl
 have u:∀(v:Value),(∀w,(binOp op t (.int k a) (.int k b)).run P w=.ok v w)->K v->fq P (vS (do eqGuard op t J A (.int k a) (.int k b);binOp op t (.int k a) (.int k b))) K:=by intro v M hk;exact cW (λw=>by rw[asI,g];exact M w) hk
 cases op<;>simp only[NG] at h;case shl=>exact absurd rfl z.1
 case shr=>exact absurd rfl z.2
 case add=>rw[pR] at h;exact u _ (λw=>by simp[binOp,Op.intArith]) h
 case sub=>rw[pR] at h;exact u _ (λw=>by simp[binOp,Op.intArith]) h
 case mul=>rw[pR] at h;exact u _ (λw=>by simp[binOp,Op.intArith]) h
 case quo=>rw[vC] at h;exact u _ (λw=>by simp[binOp,Op.intDiv,h.1]) h.2
 case rem=>rw[zJ] at h;exact u _ (λw=>by simp[binOp,Op.intDiv,h.1]) h.2
 case and=>rw[mR] at h;exact u _ (λw=>by simp[binOp,Op.intBits,bits]) h
 case or=>rw[mR] at h;exact u _ (λw=>by simp[binOp,Op.intBits,bits]) h
 case xor=>rw[mR] at h;exact u _ (λw=>by simp[binOp,Op.intBits,bits]) h
 case andNot=>rw[mR] at h;exact u _ (λw=>by simp[binOp,Op.intBits,bits]) h
 all_goals(replace h:=nU.val h)
 case eql=>exact u _ (λw=>by rw[<-Mb];simp[binOp,Op.intCmp]) h
 case neq=>exact u _ (λw=>by rw[show decide (a≠b)=(a != b) from by rw[bne,Mb];simp];simp[binOp,Op.intCmp]) h
 all_goals exact u _ (λw=>by simp[binOp,Op.intCmp]) h
theorem J8{op:BinOp}{t:TypeId}{xo yo:Operand}{x y:Value}{K:Value->Prop}(h:NH P op t xo yo x y K):fq P (vS (do eqGuard op t xo yo x y;binOp op t x y)) K:=by
 have g:∀op k a J b w,(eqGuard op t xo yo (.int k a) (.int J b)).run P w=.ok () w:=by intro op k a J b w;unfold eqGuard;cases op<;>rfl
 unfold NH at h;split at h
 .rename_i k a J b;split at h
  .rw[LY] at h;exact YH
  .rw[zK] at h;exact YH
  .rename_i hs hr;cases hk:Nat.beq (Dy k) (Dy J) with
   |false=>rw[hk] at h;exact h.elim
   |true=>rw[hk] at h;obtain rfl:=zH hk;exact J7 ⟨hs,hr⟩ h
 .rw[ke] at h;exact h
theorem gR(F:Fr)(xs:Array Operand):(xs.toList.map (ev F)).toArray=xs.map (ev F):=Yg
theorem Ei(F:Fr)(ps:Array (Nat×Operand)):(ps.toList.map λp=>(p.1,ev F p.2)).toArray=ps.map λ(i,x)=>(i,ev F x):=Yg
theorem mY{F:Fr}{c:Call}{l:aW}(h:c.args.toList.map (ev F)=l):c.args.map (ev F)=l.toArray:=by
 rw[<-h,gR]
theorem ie(F:Fr)(o:Oper)(c:Call)(b:Builtin)(u:o.op=.call c)(z:c.callee=.builtin b):execOp (ev F) o=builtin b c.argTypes o.type (c.args.map λ| .const _=>true|_=>false) (c.args.map (ev F)):=by
 unfold execOp;rw[u];simp only[resolve,z];rfl
theorem ZG{u:Array TypeId}{r:List TypeId}(h:u.toList=t::r)(ty:TypeId)(x:Value):Builtin.len_ u ty #[x]=Builtin.len_ #[t] 0 #[x]:=by
 obtain⟨l⟩:=u;simp only at h;subst h;rfl
theorem fB{o:Oper}{F:Fr}{K:Value->Prop}(h:rj P o F K):fq P (execOp (ev F) o) K:=by
 unfold rj at h;split at h;case h_1 x he=>unfold execOp;rw[he];exact vH h
 case h_2 x he=>unfold execOp;rw[he];exact vH h
 case h_3 c a b he=>
  split at h
  .rename_i A;unfold execOp;rw[he];simp only[A];exact⟨ev F a,λw=>rfl,h⟩
  .rename_i A;unfold execOp;rw[he];simp only[A];exact⟨ev F b,λw=>rfl,h⟩
  .exact h.elim
 case h_4 op t x y V he=>unfold execOp;rw[he];exact J8 h
 case h_5 op t x he=>
  unfold execOp;rw[he];dsimp only;split at h
  .rename_i z;rw[z];exact cW (λ_=>rfl) h
  .rename_i z;rw[z];exact cW (λ_=>rfl) h
  .rename_i k n z;rw[z];rw[pR] at h;exact cW (λ_=>rfl) h
  .rw[iP] at h;exact h
 case h_6 s d x he=>unfold execOp;rw[he];rw[AG] at h;exact h
 case h_7 s x f he=>unfold execOp;rw[he];rw[AH] at h;exact h
 case h_8 t x f he=>unfold execOp;rw[he];rw[AJ] at h;exact h
 case h_9 t x i he=>unfold execOp;rw[he];rw[vD] at h;exact h
 case h_10 t x i he=>unfold execOp;rw[he];rw[Hs] at h;exact h
 case h_11 t x lo hi mx he=>unfold execOp;rw[he];rw[vE] at h;exact h
 case h_12 t i he=>
  split at h
  .rename_i vs M;split at h
   .rename_i v hi;unfold execOp;rw[he];dsimp only;rw[M];refine cW (λw=>?_) h;have:vs[i]? =some v:=by simpa using hi
    simp[Instr.extract,this]
   .exact h.elim
  .exact h.elim
 case h_13 x he=>
  split at h
  .rename_i a z;unfold execOp;rw[he];dsimp only;rw[z];exact vH h
  .rename_i f pre caps z;unfold execOp;rw[he];dsimp only;rw[z];exact vH h
  .rw[iP] at h;exact h
 case h_14 fn first cap he=>
  unfold execOp;rw[he];rw[gR,gR] at h;exact cW (λ_=>rfl) h
 case h_15 t ps he=>
  unfold execOp;rw[he];rw[FG] at h;rw[Ei] at h;exact h
 case h_16 c he=>
  split at h
  .rename_i x A u;split at h
   .rename_i t W O;rw[ie F o c _ he A,mY u];rw[FF] at h;show fq P (vS (Builtin.len_ c.argTypes o.type #[x])) K;rw[ZG O];exact h
   .rw[iP] at h;exact h
  .rename_i k x J y A u;cases hk:Nat.beq (Dy k) (Dy J) with
   |false=>rw[hk] at h;exact h.elim
   |true=>
    rw[hk] at h;obtain rfl:=zH hk;rw[ie F o c _ he A,mY u];have e:(max x y:Int)=if y>x then y else x:=by split<;>omega
    rw[e] at h;exact cW (s:=Builtin.max_ c.argTypes o.type #[.int k x,.int k y]) (λw=>rfl) h
  .rename_i k x J y A u;cases hk:Nat.beq (Dy k) (Dy J) with
   |false=>rw[hk] at h;exact h.elim
   |true=>
    rw[hk] at h;obtain rfl:=zH hk;rw[ie F o c _ he A,mY u];have e:(min x y:Int)=if y<x then y else x:=by split<;>omega
    rw[e] at h;exact cW (s:=Builtin.min_ c.argTypes o.type #[.int k x,.int k y]) (λw=>rfl) h
  .rw[iP] at h;exact h
 case h_17=>rw[iP] at h;exact h
theorem AV{s:Sem Value}{K:VK}(h:∃v,(∀z,z=w->mB P (vS s) (λu A=>u=v/\A=z) z)/\K v w):mB P (vS s) K w:=by
 obtain⟨v,J,hk⟩:=h;exact(J w rfl).mono λu z ⟨O,M⟩=>Yg
theorem uC(F:Fr)(o:Oper)(c:Call)(f:Operand)(fn:Fn)(pre caps:Array Value)(u:o.op=.call c)(A:c.callee=.value f)(z:ev F f=.func fn pre caps):execOp (ev F) o=invoke (.fn fn caps) (pre++c.args.map (ev F)):=by
 unfold execOp;rw[u];simp only[resolve,A,z,Deferred.ofValue];rfl
theorem ajS(F:Fr)(pre caps:Array Value)(c:Call):(pre.toList++c.args.toList.map (ev F)++caps.toList).toArray=(pre++c.args.map (ev F))++caps:=by
 rw[<-gR];simp
theorem aqf(F:Fr)(pre:Array Value)(c:Call):(pre.toList++c.args.toList.map (ev F)).toArray=pre++c.args.map (ev F):=by
 rw[<-gR];simp
theorem Hu{c:Call}{F:Fr}{K:VK}(u:o.op=.call c)(h:Eg P o c F K X w):Ho P (execOp (ev F) o) K X w:=by
 unfold Eg at h;split at h
 .rename_i f A;split at h
  .rename_i k pre caps J;rw[uC F o c f _ _ _ u A J];rw[AQ] at h;rw[ajS] at h;exact h
  .rename_i l pre caps J;rw[uC F o c f _ _ _ u A J];rw[sR] at h;rw[aqf] at h;exact h.x
  .rw[fP] at h;exact h
 .rename_i b A;split at h
  .rename_i m z;split at h
   .rename_i t r V;rw[ie F o c _ u A,mY z];rw[zL] at h;have O:mB P (vS (Builtin.len_ c.argTypes o.type #[.map m])) K w:=by rw[ZG V];exact AV h
    exact O.x
   .rw[fP] at h;exact h
  .exact(fB h).op.x
  .exact(fB h).op.x
  .exact(fB h).op.x
  .rename_i Z M Y W;rw[ie F o c _ u A];rw[nZ] at h;rw[gR] at h;exact h
 .rw[fP] at h;exact h
theorem xJ{F:Fr}{K:VK}(h:NJ P o F K X w):Ho P (execOp (ev F) o) K X w:=by
 unfold NJ at h;split at h;case h_1 t x he=>unfold execOp;rw[he];rw[ri] at h;exact(AV h).x
 case h_2 t x i ok he=>unfold execOp;rw[he];rw[pc] at h;exact(AV h).x
 case h_3 t a x he=>unfold execOp;rw[he];rw[sN] at h;exact h.x
 case h_4 e he=>unfold execOp;rw[he];rw[xB] at h;exact h.x
 case h_5 e x he=>unfold execOp;rw[he];rw[FH] at h;exact h.x
 case h_6 t n ps he=>unfold execOp;rw[he];rw[AL] at h;rw[Ei] at h;exact h.x
 case h_7 t r he=>unfold execOp;rw[he];rw[AM] at h;exact h.x
 case h_8 t l c he=>unfold execOp;rw[he];rw[AN] at h;exact h.x
 case h_9 t m k x he=>unfold execOp;rw[he];rw[pd] at h;exact h.x
 case h_10 t m k x he=>unfold execOp;rw[he];rw[pd] at h;exact h.x
 case h_11 t m k he=>unfold execOp;rw[he];rw[AO] at h;exact h.x
 case h_12 t m k x he=>unfold execOp;rw[he];rw[AP] at h;exact h.x
 case h_13 c he=>exact Hu he h
 case h_14 s d x he=>
  unfold ZE at h;split at h
  .rw[fP] at h;exact h
  .rw[fP] at h;exact h
  .exact(fB h).op.x
 all_goals first|exact(fB h).op.x|(rw[fP] at h;exact h)
theorem ma(h:fq P s K):∃v,(∀w,S w->mB P s (λu z=>u=v/\z=w) w)/\K v:=by
 obtain⟨v,A,hk⟩:=h;exact⟨v,λw _ w0 hw=>by rw[A];exact⟨rfl,hw⟩,hk⟩
theorem FK{F:Fr}(h:pS P S o F K):∃v,(∀w,S w->mB P (execOp (ev F) o) (λu M=>u=v/\M=w) w)/\K v:=by
 unfold pS at h;split at h;case h_1 t x he=>rw[ri] at h;obtain⟨v,z,hk⟩:=h;refine⟨v,λw hw=>?_,hk⟩;unfold execOp;rw[he];exact z w hw
 case h_2 t x i ok he=>rw[pc] at h;obtain⟨v,z,hk⟩:=h;refine⟨v,λw hw=>?_,hk⟩;unfold execOp;rw[he];exact z w hw
 case h_3 c he=>
  split at h
  .rename_i f J;split at h
   .rename_i k pre caps V;rw[AK] at h;obtain⟨v,z,hk⟩:=h;refine⟨v,λw hw=>?_,hk⟩;rw[uC F o c f _ _ _ he J V];have:=z w hw;rw[ajS] at this;exact this
   .exact h.elim
  .rename_i J;split at h
   .rename_i m A;split at h
    .rename_i t r O;rw[zL] at h;obtain⟨v,z,hk⟩:=h;refine⟨v,λw hw=>?_,hk⟩;rw[ie F o c _ he J,mY A];show mB P (vS (Builtin.len_ c.argTypes o.type #[.map m])) _ w;rw[ZG O];exact z w hw
    .exact h.elim
   .exact ma (fB h)
  .exact ma (fB h)
 all_goals exact ma (fB h)
theorem Hv{F:Fr}(z:FI o=true)(h:pS P S o F K):∃v,(∀w,True->mB P (execOp (ev F) o) (λu A=>u=v/\A=w) w)/\K v:=by
 unfold pS at h;unfold FI at z;split at h;case h_1 t x he=>rw[he] at z;cases z
 case h_2 t x i ok he=>rw[he] at z;cases z
 case h_3 c he=>
  rw[he] at z;split at h
  .exact Yg
  .rename_i J;simp only[J] at z;cases z
  .exact ma (S:=λ_=>True) (fB h)
 all_goals exact ma (S:=λ_=>True) (fB h)
end
end Go.Proofs.YtakcjkbnfegidaaGreat
namespace Go.Proofs.YtakcjkbnfegidaaGreat
open Go Tryz
variable{K u:Value->Prop}{o:Oper}{F:Fr}{w:World}
section
variable {P:Program}
theorem fq.mono{s:Sem Next}(h:fq P s K)(hk:∀v,K v->u v):fq P s u:=let⟨v,z,k⟩:=h;⟨v,z,hk _ k⟩
theorem nU.mono{p:Prop}[Decidable p](h:nU p K)(hk:∀v,K v->u v):nU p u:=.of ⟨λe=>hk _ (h.both.1 e),λe=>hk _ (h.both.2 e)⟩
theorem PM.mono{k:IntKind}{n:Int}(h:PM k n K)(hk:∀v,K v->u v):PM k n u:=by rw[pR] at h|-;exact hk _ h
theorem NK{op:BinOp}{t:TypeId}{z u:Operand}{k:IntKind}{a b:Int}{A:Value->Prop}(hk:∀v,K v->A v)(h:NG P op t z u k a b K):NG P op t z u k a b A:=by
 cases op<;>simp only[NG] at h|-;case add=>exact h.mono hk
 case sub=>exact h.mono hk
 case mul=>exact h.mono hk
 case quo=>rw[vC] at h|-;exact⟨h.1,hk _ h.2⟩
 case rem=>rw[zJ] at h|-;exact⟨h.1,hk _ h.2⟩
 case and=>rw[mR] at h|-;exact hk _ h
 case or=>rw[mR] at h|-;exact hk _ h
 case xor=>rw[mR] at h|-;exact hk _ h
 case andNot=>rw[mR] at h|-;exact hk _ h
 case shl=>rw[ke] at h|-;exact h.mono hk
 case shr=>rw[ke] at h|-;exact h.mono hk
 all_goals exact h.mono hk
theorem NL{op:BinOp}{t:TypeId}{z u:Operand}{x y:Value}{K J:Value->Prop}(hk:∀v,K v->J v)(h:NH P op t z u x y K):NH P op t z u x y J:=by
 unfold NH at*;split at h
 .split at h
  .rw[LY] at h|-;exact⟨h.1,hk _ h.2⟩
  .rw[zK] at h|-;exact⟨h.1,hk _ h.2⟩
  .rename_i k a M b _ _ _;cases A:Nat.beq (Dy k) (Dy M) with
   |false=>rw[A] at h;exact h.elim
   |true=>rw[A] at h;exact NK hk h
 .rw[ke] at h|-;exact h.mono hk
theorem iR{o:Oper}{F:Fr}{K z:Value->Prop}(hk:∀v,K v->z v)(h:rj P o F K):rj P o F z:=by
 unfold rj at*;split at h;case h_1=>exact hk _ h
 case h_2=>exact hk _ h
 case h_3=>split at h<;>first|exact hk _ h|exact h
 case h_4=>exact NL hk h
 case h_5=>
  split at h
  .exact hk _ h
  .exact hk _ h
  .exact h.mono hk
  .rw[iP] at h|-;exact h.mono hk
 case h_6=>rw[AG] at h|-;exact h.mono hk
 case h_7=>rw[AH] at h|-;exact h.mono hk
 case h_8=>rw[AJ] at h|-;exact h.mono hk
 case h_9=>rw[vD] at h|-;exact h.mono hk
 case h_10=>rw[Hs] at h|-;exact h.mono hk
 case h_11=>rw[vE] at h|-;exact h.mono hk
 case h_12=>
  split at h
  .split at h
   .exact hk _ h
   .exact h
  .exact h
 case h_13=>
  split at h
  .exact hk _ h
  .exact hk _ h
  .rw[iP] at h|-;exact h.mono hk
 case h_14=>exact hk _ h
 case h_15=>rw[FG] at h|-;exact h.mono hk
 case h_16=>
  split at h
  .split at h
   .rw[FF] at h|-;exact h.mono hk
   .rw[iP] at h|-;exact h.mono hk
  .exact Yg
  .rename_i k x A y _ _;cases u:Nat.beq (Dy k) (Dy A) with
   |false=>rw[u] at h;exact h.elim
   |true=>rw[u] at h;exact hk _ h
  .rw[iP] at h|-;exact h.mono hk
 case h_17=>rw[iP] at h|-;exact h.mono hk
theorem ZH{α:Type}{A:α->Prop}{K u:α->Prop}(hk:∀v,K v->u v)(h:∃v,A v/\K v):∃v,A v/\u v:=let⟨v,a,k⟩:=h;⟨v,a,hk _ k⟩
theorem J9{c:Call}{K A:VK}{X X':XK}(hk:∀v u,K v u->A v u)(z:∀ch u,X ch u->X' ch u)(h:Eg P o c F K X w):Eg P o c F A X' w:=by
 unfold Eg at*;split at h
 .split at h
  .rw[AQ] at h|-;exact h.vA hk z
  .rw[sR] at h|-;exact h.mono hk
  .rw[fP] at h|-;exact h.vA hk z
 .split at h
  .split at h
   .rw[zL] at h|-;exact ZH (λv=>hk v w) h
   .rw[fP] at h|-;exact h.vA hk z
  .exact iR (λv=>hk v w) h
  .exact iR (λv=>hk v w) h
  .exact iR (λv=>hk v w) h
  .rw[nZ] at h|-;exact h.vA hk z
 .rw[fP] at h|-;exact h.vA hk z
theorem vI{K A:VK}{X X':XK}(hk:∀v u,K v u->A v u)(z:∀ch u,X ch u->X' ch u)(h:NJ P o F K X w):NJ P o F A X' w:=by
 unfold NJ at*;split at h;case h_1=>rw[ri] at h|-;exact ZH (λv=>hk v w) h
 case h_2=>rw[pc] at h|-;exact ZH (λv=>hk v w) h
 case h_3=>rw[sN] at h|-;exact h.mono hk
 case h_4=>rw[xB] at h|-;exact h.mono hk
 case h_5=>rw[FH] at h|-;exact h.mono hk
 case h_6=>rw[AL] at h|-;exact h.mono hk
 case h_7=>rw[AM] at h|-;exact h.mono hk
 case h_8=>rw[AN] at h|-;exact h.mono hk
 case h_9=>rw[pd] at h|-;exact h.mono hk
 case h_10=>rw[pd] at h|-;exact h.mono hk
 case h_11=>rw[AO] at h|-;exact h.mono hk
 case h_12=>rw[AP] at h|-;exact h.mono hk
 case h_13=>exact J9 hk z h
 case h_14=>
  unfold ZE at*;split at h
  .rw[fP] at h|-;exact h.vA hk z
  .rw[fP] at h|-;exact h.vA hk z
  .exact iR (λv=>hk v w) h
 all_goals first|exact iR (λv=>hk v w) h|(rw[fP] at h|-;exact h.vA hk z)
theorem Hw{S:World->Prop}(hk:∀v,K v->u v)(h:pS P S o F K):pS P S o F u:=by
 unfold pS at*;split at h;case h_1=>rw[ri] at h|-;exact ZH hk h
 case h_2=>rw[pc] at h|-;exact ZH hk h
 case h_3=>
  split at h
  .split at h
   .rw[AK] at h|-;exact ZH hk h
   .exact h
  .split at h
   .split at h
    .rw[zL] at h|-;exact ZH hk h
    .exact h
   .exact iR hk h
  .exact iR hk h
 all_goals exact iR hk h
theorem aT{F:Fr}{d:Nat}{v:Value}(h:F d=v):fH F d v=F:=funext λj=>by
 show(bif Nat.beq j d then v else F j)=F j;cases u:Nat.beq j d with
 |true=>rw[atx u,h];rfl
 |false=>rfl
theorem mb{ops:List Oper}{A B M J:Prop}(z:A->M)(u:B->J)(h:jG ops o F A B):jG ops o F M J:=by
 unfold jG at*;split at h
 .exact z h
 .split at h
  .split at h
   .split at h
    .exact z h
    .exact u h
   .split at h
    .exact u h
    .exact z h
   .exact u h
  .exact u h
theorem nx.mono{S:World->Prop}{C u:(World->Prop)->Prop}(z:∀S,C S->u S)(h:nx S w C):nx S w u:=by
 rw[vG] at h|-;obtain⟨M,h1,J,A⟩:=h;exact⟨M,h1,J,z _ A⟩
theorem AW{j:Nat}:∀{l:List Nat},j∈l->xI j l=true
 |x::r,h=>by
  unfold xI
  cases u:Nat.beq j x with
  |true=>rfl
  |false=>
   rcases asM.1 h with rfl|h
   .have:=auw j;rw[this] at u;cases u
   .exact AW h
def writes:Code->List Nat
 | .seq a b| .cond _ a b=>writes a++writes b
 | .block _ c| .loop c| .scope c=>writes c
 | .region _ ops _=>wr ops.toList
 |_=>[]
theorem vu.refl(l:List Nat)(F:Fr):vu l F F:=λ_ _=>rfl
theorem vu.sub{l z:List Nat}{F J:Fr}(h:vu l F J)(hs:∀j,j∈l->j∈z):vu z F J:=λj u=>h j (by
 cases hm:xI j l with
 |false=>rfl
 |true=>
  have:j∈l:=by
   clear h u hs;induction l with
   |nil=>cases hm
   |cons x r M=>
    unfold xI at hm;cases A:Nat.beq j x with
    |true=>exact asM.2 (.inl (atx A))
    |false=>rw[A] at hm;exact ast _ (M hm)
  rw[AW (hs j this)] at u;cases u)
theorem vu.trans{l:List Nat}{G H:Fr}(h:vu l F G)(k:vu l G H):vu l F H:=λj u=>(k j u).trans (h j u)
theorem vu.fH{l:List Nat}{F G:Fr}(h:vu l F G){d:Option Nat}(hd:∀j,d=some j->j∈l)(v:Value):vu l F (de G d v):=λj u=>by
 cases d with
 |none=>exact h j u
 |some d=>
  show(bif Nat.beq j d then v else G j)=F j;cases z:Nat.beq j d with
  |true=>
   have:=atx z;subst this;rw[AW (hd j rfl)] at u;cases u
  |false=>exact h j u
theorem FL{ops:List Oper}{l:List Nat}{K Y:Fr->World->Prop}{X X':XK}:∀(os:List Oper) (F z:Fr) (w:World),vu l z F->(∀o∈os,∀j,o.dst=some j->j∈l)->(∀O u,vu l z O->K O u->Y O u)->(∀ch u,X ch u->X' ch u)->UI P ops K X os F w->UI P ops Y X' os F w
 |[],F,z,w,J,_,hk,A,h=>hk _ _ J h
 |o::os,F,z,w,J,W,hk,A,h=>by
  have hd:=W o ass
  have V:∀M∈os,∀j,M.dst=some j->j∈l:=λM h'=>W M (ast _ h')
  exact mb (λh=>vI (λv u h=>by rw[rk] at h|-;exact FL os _ z u (J.fH hd v) V hk A h) A h) (λh=>FL os _ z w (J.fH hd undef) V hk A h) h
theorem ju{ops:List Oper}{l:List Nat}{K W:Fr->World->Prop}{X X':XK}(J:∀o∈ops,∀j,o.dst=some j->j∈l):∀(p:iz) (S:World->Prop) (F u:Fr) (w:World),vu l u F->(∀V O,vu l u V->K V O->W V O)->(∀ch O,X ch O->X' ch O)->fA P ops K X p S F w->fA P ops W X' p S F w
 | .done,S,F,u,w,A,hk,z,h=>hk _ _ A h
 | .take i p,S,F,u,w,A,hk,z,h=>by
  rw[AR] at h|-
  split at h
  .rename_i o hi
   have hd:=J o (asq hi)
   exact mb (λh=>Hw (λv h=>by rw[rk] at h|-;exact ju J p S _ u w (A.fH hd v) hk z h) h) (λh=>ju J p S _ u w (A.fH hd undef) hk z h) h
  .exact h
 | .DF i p,S,F,u,w,A,hk,z,h=>by
  rw[xD] at h|-
  split at h
  .rename_i o hi
   have hd:=J o (asq hi)
   exact mb (λh=>vI (λv O h=>by rw[rk] at h|-;exact nx.mono (λM h=>ju J p M _ u O (A.fH hd v) hk z h) h) z h)
    (λh=>nx.mono (λM h=>ju J p M _ u w (A.fH hd undef) hk z h) h) h
  .exact h
 | .alt i p q,S,F,u,w,A,hk,z,h=>by
  rw[xG] at h|-
  refine⟨?_,ju J q S F u w A hk z h.2⟩
  have h:=h.1
  split at h
  .rename_i o hi
   have hd:=J o (asq hi)
   exact mb (λh=>vI (λv O h=>by rw[rk] at h|-;exact nx.mono (λM h=>ju J p M _ u O (A.fH hd v) hk z h) h) z h)
    (λh=>nx.mono (λM h=>ju J p M _ u w (A.fH hd undef) hk z h) h) h
  .exact h
 | .UJ p,S,F,u,w,A,hk,z,h=>by
  rw[Eh] at h|-
  obtain⟨M,h1,Y⟩:=h
  exact⟨M,h1,ju J p M F u w A hk z Y⟩
theorem AX{ops:List Oper}:∀o∈ops,∀j,o.dst=some j->j∈wr ops:=λo u _ z=>aus.2 ⟨o,u,z⟩
theorem ft{a b:Bool}(h:(a&&b)=true):a=true/\b=true:=by simpa using h
theorem AY:∀(c:Code) (K W:KK) (F:Fr) (ds:List Deferred) (w:World),(∀e J z M,((∀ch,e≠.panic ch)->vu (writes c) F J)->(eO c=true->z=ds)->K e J z M->W e J z M)->V P c K F ds w->V P c W F ds w
 | .skip,K,W,F,ds,w,hk,h=>hk _ _ _ _ (λ_=>.refl _ _) (λ_=>rfl) h
 | .label _,K,W,F,ds,w,hk,h=>hk _ _ _ _ (λ_=>.refl _ _) (λ_=>rfl) h
 | .exit _,K,W,F,ds,w,hk,h=>hk _ _ _ _ (λ_=>.refl _ _) (λ_=>rfl) h
 | .ret,K,W,F,ds,w,hk,h=>hk _ _ _ _ (λ_=>.refl _ _) (λ_=>rfl) h
 | .seq a b,K,W,F,ds,w,hk,h=>by
  refine AY a _ _ F ds w (λe J z M A hd h=>?_) h
  have X:(∀ch,e≠.panic ch)->vu (writes (.seq a b)) F J:=λu=>(A u).sub λ_ Y=>atO _ Y
  cases e with
  |normal=>
   refine AY b _ _ J z M (λe ao ab af a8 aa h=>?_) h
   exact hk _ _ _ _ (λu=>(X λ_ e=>by cases e).trans ((a8 u).sub λ_ Y=>atV _ Y)) (λO=>by
    have:eO a=true/\eO b=true:=by simpa[eO] using O
    rw[aa this.2,hd this.1]) h
  |_=>
   refine hk _ _ _ _ X (λO=>hd ?_) h
   have:eO a=true/\eO b=true:=by simpa[eO] using O
   exact this.1
 | .cond c a b,K,W,F,ds,w,hk,h=>by
  rw[J4] at h|-
  split at h
  .exact AY a _ _ F ds w (λe J z M A hd h=>hk _ _ _ _ (λu=>(A u).sub λ_ Y=>atO _ Y) (λO=>hd (ft O).1) h) h
  .exact AY b _ _ F ds w (λe J z M A hd h=>hk _ _ _ _ (λu=>(A u).sub λ_ Y=>atV _ Y) (λO=>hd (ft O).2) h) h
  .exact h
 | .block id c,K,W,F,ds,w,hk,h=>by
  refine AY c _ _ F ds w (λe J z M A hd h=>?_) h
  cases e with
  |exit i=>
   cases hb:Nat.beq i id with
   |true=>simp only[hb,cond_true] at h|-;exact hk _ _ _ _ (λ_=>A λ_ e=>by cases e) hd h
   |false=>simp only[hb,cond_false] at h|-;exact hk _ _ _ _ (λ_=>A λ_ e=>by cases e) hd h
  |_=>exact hk _ _ _ _ A hd h
 | .region _ ops false,K,W,F,ds,w,hk,h=>FL ops.toList F F w (.refl _ _) AX (λJ M A h=>hk _ _ _ _ (λ_=>A) (λ_=>rfl) h) (λch M h J A=>hk _ _ _ _ (λu=>absurd rfl (u ch)) (λ_=>rfl) (h J A)) h
 | .region _ ops true,K,W,F,ds,w,hk,h=>by
  rw[PY,lZ] at h|-
  obtain⟨hm,p,B,S,h1,h2,h3⟩:=h
  exact⟨hm,p,B,S,h1,h2,ju AX p S F F w (.refl _ _) (λJ M A h=>hk _ _ _ _ (λ_=>A) (λ_=>rfl) h) (λch M h J A=>hk _ _ _ _ (λu=>absurd rfl (u ch)) (λ_=>rfl) (h J A)) h3⟩
 | .loop c,K,W,F,ds,w,hk,h=>by
  rw[J5,rm] at h|-
  obtain⟨I,⟨n0,h0⟩,hs⟩:=h
  refine⟨λn J z M=>I n J z M/\vu (writes c) F J/\(eO c=true->z=ds),⟨n0,h0,.refl _ _,λ_=>rfl⟩,λn1 F1 a6 w1 ⟨hi,Z,a1⟩=>?_⟩
  refine AY c _ _ F1 a6 w1 (λe J z M A hd h=>?_) (hs n1 F1 a6 w1 hi)
  cases e with
  |normal=>
   obtain⟨m,hm,h⟩:=h
   exact⟨m,hm,h,Z.trans (A λ_ e=>by cases e),λO=>(hd O).trans (a1 O)⟩
  |_=>exact hk _ _ _ _ (λu=>Z.trans (A u)) (λO=>(hd O).trans (a1 O)) h
 | .rangeFunc g ps ak b,K,W,F,ds,w,hk,h=>by
  rw[L9,xH] at h|-
  intro a w0 hw A hd a7
  exact at0 (h a w0 hw A hd a7) λe a' M ⟨h1,h2⟩=>⟨h1,hk _ _ _ _ (λ_=>.refl _ _) (λO=>by cases O) h2⟩
 | .scope _,_,_,_,_,_,_,h=>h.elim
 | .goto _,_,_,_,_,_,_,h=>h.elim
 | .refuse _,_,_,_,_,_,_,h=>h.elim
end
end Go.Proofs.YtakcjkbnfegidaaGreat
