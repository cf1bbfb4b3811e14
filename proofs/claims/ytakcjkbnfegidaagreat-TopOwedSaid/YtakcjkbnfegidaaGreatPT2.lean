/- Part. -/
import Derived.Test.YtakcjkbnfegidaaGreatPT1
set_option linter.all false
namespace Go.Proofs.YtakcjkbnfegidaaGreat
open Go Tryz
variable{w:World}{F:Fr}{f:FuncId}{m:Nat}
section
variable {P:Program} {n:Nat}
theorem tJ.eval{a:Act}{F:Fr}{ds:List Deferred}(h:tJ n a F ds):a.eval=ev F:=funext λx=>by
 cases x with
 |tmp t=>exact h.2.1 t
 |_=>rfl
theorem tJ.put{a:Act}{F:Fr}{ds:List Deferred}(h:tJ n a F ds){d:Option Nat}(hd:∀j,d=some j->j<n)(v:Value):tJ n (a.put d v) (de F d v) ds:=by
 obtain⟨h1,M,J⟩:=h;cases d with
 |none=>exact⟨h1,M,J⟩
 |some d=>
  have z:=hd d rfl;refine⟨by simpa[Act.put] using h1,λt=>?_,J⟩;show(a.tmps.setIfInBounds d v).getD t undef=(bif Nat.beq t d then v else F t);cases A:Nat.beq t d with
  |true=>
   obtain rfl:=atx A;simp[h1,z]
  |false=>
   have u:d≠t:=λe=>by subst e;rw[auw] at A;cases A
   rw[<-M t];simp[at9 u]
theorem Ka{a:Act}{F:Fr}{ds:List Deferred}(h:tJ n a F ds)(ops:Array Oper)(j:Nat):yielded ops a.tmps j=match(ops.toList[j]?).bind (·.dst) with|some d=>(match F d with| .bool b=>some b|_=>none)|none=>none:=by
 unfold yielded;rw[avf];cases hd:(ops[j]?).bind (·.dst) with
 |none=>rfl
 |some d=>
  have u:=h.2.1 d;simp only[Option.bind_some];cases z:a.tmps[d]? with
  |none=>
   rw[ate,z] at u;rw[<-u];rfl
  |some v=>
   rw[ate,z] at u;subst u;cases F d<;>rfl
theorem mS{ops:Array Oper}{o:Oper}{a:Act}{F:Fr}{ds:List Deferred}{A B:Prop}(hg:tJ n a F ds)(h:jG ops.toList o F A B):if Region.wanted o (yielded ops a.tmps)=true then A else B:=by
 unfold jG at h;unfold Region.wanted;split at h
 .rename_i hn;simp only[hn,auM];exact h
 .rename_i j want hs;simp only[hs,Ka hg];split at h
  .rename_i d hd;simp only[hd];split at h
   .exact YK
   .exact YK
   .rename_i O J;have:(match F d with| .bool b=>some b|_=>none)=none:=by
     cases V:F d with
     |bool b=>cases b<;>first|exact(O V).elim|exact(J V).elim
     |_=>rfl
    rw[this];simpa using h
  .rename_i hno;simp only[hno];simpa using h
theorem AZ{ops:List Oper}(h:wfL n ops=true):∀o∈ops,∀j,o.dst=some j->j<n:=λo u j z=>by
 have:=asH.1 h o u;rw[z] at this;simpa using this
def KQ(n:Nat)(K:KK):Exit->Act->World->Prop:=λe a' w'=>∃F',tJ n a' F' a'.defers/\K e F' a'.defers (z w')
theorem uD{ops:Array Oper}{K:KK}{ds:List Deferred}{r:Option Nat}{Z:Fr}(J:∀o∈ops.toList,∀j,o.dst=some j->j<n):∀(os:List Oper) (F:Fr) (w0:World) (a:Act),(∀o∈os,o∈ops.toList)->tJ n a F ds->vu (wr ops.toList) Z F->UI P ops.toList (λW u=>K .normal W ds u) (λch u=>∀W,vu (wr ops.toList) Z W->K (.panic ch) W ds u) os F (z w0)->wpListIn (Fw r) 0 P ops (KQ n K) os a w0
 |[],F,w0,a,_,M,_,h=>⟨F,by obtain⟨h1,h2,h3⟩:=M;subst h3;exact⟨⟨h1,h2,rfl⟩,h⟩⟩
 |o::os,F,w0,a,hs,M,A,h=>by
  have hu:∀v,vu (wr ops.toList) Z (de F o.dst v):=λv=>A.fH (λj hj=>AX o (hs o ass) j hj) v
  have hd:=J o (hs o ass)
  have hr:∀X∈os,X∈ops.toList:=λX h'=>hs X (ast _ h')
  have h:=mS M h
  show if _ then _ else _
  split
  .rename_i hw
   rw[asp hw] at h
   have h1:=xJ h
   rw[<-M.eval] at h1
   refine Oper.wpIn_mono (λY u O=>O) (LU (K:=λY u=>∀V,z V=u->wpListIn (Fw r) 0 P ops (KQ n K) os Y V) (λch u hx=>⟨F,by obtain⟨g1,g2,g3⟩:=M;subst g3;exact⟨⟨g1,g2,rfl⟩,hx F A⟩⟩) (h1.mono λv u hv V e=>?_)) |> λO=>Oper.wpIn_mono (λY u O=>O u rfl) O
   subst e
   rw[rk] at hv
   exact uD J os _ V _ hr (M.put hd v) (hu v) hv
  .rename_i hw
   rw[aso hw] at h
   exact⟨λ_ _=>Yt,uD J os _ w0 _ hr (M.put hd undef) (hu undef) h⟩
theorem Kb{ops:Array Oper}{b i:Nat}{o:Oper}(M:ops[b]? =some o)(h:(AS ops b).testBit i=true):∃e∈o.after,Region.binds .any e=true/\e.on=i:=by
 unfold AS at h;rw[M] at h;have key:∀l:List Edge,(l.foldr (λe m=>bif Region.binds .any e then Nat.lor m (Nat.shiftLeft 1 e.on) else m) 0).testBit i=true->∃e∈l,Region.binds .any e=true/\e.on=i:=by
  intro l;induction l with
  |nil=>intro h;simp at h
  |cons e r J=>
   intro h;rw[List.foldr_cons] at h;cases u:Region.binds .any e with
   |false=>rw[u] at h;obtain⟨x,A,z⟩:=J h;exact⟨x,ast _ A,z⟩
   |true=>
    rw[u] at h;have h:((r.foldr (λe m=>bif Region.binds .any e then Nat.lor m (Nat.shiftLeft 1 e.on) else m) 0) |||(1<<<e.on)).testBit i=true:=h;rw[Nat.testBit_or,avu,Nat.one_shiftLeft,Nat.testBit_two_pow,decide_eq_true_iff] at h;rcases h with h|h
    .obtain⟨x,A,z⟩:=J h;exact⟨x,ast _ A,z⟩
    .exact⟨e,ass,u,h⟩
 obtain⟨e,he,z⟩:=key _ h;exact⟨e,by simpa using he,z⟩
theorem pV{ops:Array Oper}{b:Nat}{l:Array Bool}(h:∀o,ops[b]? =some o->∀e∈o.after,Region.binds .any e=true->l.getD e.on false=true):∀i,(AS ops b).testBit i=true->l.getD i false=true:=λi hi=>by
 cases u:ops[b]? with
 |none=>unfold AS at hi;rw[u] at hi;simp at hi
 |some o=>obtain⟨e,he,h1,z⟩:=Kb u hi;rw[<-z];exact h o u e he h1
theorem rn{ops:Array Oper}{l:Array Bool}(A:Cl .any ops l):∀(n m:Nat),(∀i,m.testBit i=true->l.getD i false=true)->∀i,(ZF ops n m).testBit i=true->l.getD i false=true
 |0,m,h,i,hi=>h i hi
 |n+1,m,h,i,hi=>by
  refine rn A n _ (λk hk=>?_) i hi
  have hk:(m |||od ops m (List.range ops.size)).testBit k=true:=hk
  rw[Nat.testBit_or,avu] at hk
  rcases hk with hk|hk
  .exact h k hk
  .have key:∀ks:List Nat,(od ops m ks).testBit k=true->l.getD k false=true:=by
    intro ks
    induction ks with
    |nil=>intro h;simp[od] at h
    |cons x r z=>
     intro u
     unfold od at u
     cases hm:Nat.testBit m x with
     |false=>rw[hm] at u;exact z u
     |true=>
      rw[hm] at u
      have u:(AS ops x |||od ops m r).testBit k=true:=u
      rw[Nat.testBit_or,avu] at u
      rcases u with u|u
      .exact pV (λo J e he M=>A x o J (h x hm) e he M) k u
      .exact z u
   exact key _ hk
theorem bc{ops:Array Oper}{b i:Nat}(h:pT ops b i=true)(l:Array Bool)(M:Cl .any ops l)(O:b∈Region.ready .any ops l):l.getD i false=true:=by
 unfold pT at h;refine rn M 8 _ (pV λo J e he A=>?_) i h;obtain⟨_,V,u,z⟩:=avm.1 O;rw[J] at u;injection u with u;subst u;exact z e he A
theorem gj{ops:Array Oper}{K:Fr->World->Prop}{X:XK}{ds:List Deferred}(A:∀o∈ops.toList,∀j,o.dst=some j->j<n)(z:Region.noSelect ops=true):∀(p:iz) (B:List Nat) (l:Array Bool) (S:World->Prop) (F:Fr) (w:World) (a:Act) (fuel:Nat),p.an<=fuel->Cl .any ops l->S w->tJ n a F ds->fA P ops.toList K X p S F w->(dV ops true B p l=true->mC P .any ops (λZ u=>∃F',tJ n Z F' ds/\K F' u) X B S fuel l a w)/\(dV ops false B p l=true->∀i∈p.idx,i∈Region.ready .any ops l->Ed P ops X i (λZ u=>(hasB B (l.setIfInBounds i true)=false->S u)/\mC P .any ops (λZ u=>∃F',tJ n Z F' ds/\K F' u) X B S (fuel-1) (l.setIfInBounds i true) Z u) a w)
 | .done,B,l,S,F,w,a,fuel,hl,J,hS,M,h=>⟨λhk=>NF (by simpa[dV] using hk) ⟨F,M,h⟩ fuel,λhk=>by simp[dV] at hk⟩
 | .take i p,B,l,S,F,w,a,fuel,hl,J,hS,M,h=>⟨λhk=>by
  simp only[dV,aui,asv] at hk
  obtain⟨⟨⟨hr,hf⟩,aa⟩,hp⟩:=hk
  have a6:=J.set (i:=i) (by simpa using hr)
  rw[avu,asv,asv] at aa
  rw[AR] at h
  split at h
  .rename_i o hi
   have ho:ops[i]? =some o:=by simpa using hi
   have hd:=A o (asq hi)
   have h:=mS M h
   obtain⟨fuel,rfl⟩:∃f,fuel=f+1:=⟨fuel-1,by simp[iz.an] at hl;omega⟩
   have W:p.an<=fuel:=by simp[iz.an] at hl;omega
   rcases aa with⟨ao,ak⟩|⟨af,ab⟩
   .have aE:FI o=true:=by unfold PX at ao;rw[ho] at ao;exact ao
    have a8:i∉B:=λhm=>by
     have:=auY.2 ⟨i,hm,auw i⟩
     rw[this] at ak;cases ak
    by_cases hw:Region.wanted o (yielded ops a.tmps)=true
    .rw[asp hw] at h
     obtain⟨v,O,hk⟩:=Hv aE h
     rw[rk] at hk
     rw[<-M.eval] at O
     exact AD ho z hf hr a8 (.inl ⟨hw,O⟩) hS ((gj A z p B _ S _ w _ fuel W a6 hS (M.put hd v) hk).1 hp)
    .rw[aso hw] at h
     exact AD ho z hf hr a8 (.inr ⟨by simpa using hw,rfl⟩) hS ((gj A z p B _ S _ w _ fuel W a6 hS (M.put hd undef) h).1 hp)
   .have a8:∀b∈B,∀l,Cl .any ops l->b∈Region.ready .any ops l->l.getD i false=true:=λb hb l hc b2=>bc (asH.1 ab b hb) l hc b2
    have af:hasB B l=false:=by simpa using af
    by_cases hw:Region.wanted o (yielded ops a.tmps)=true
    .rw[asp hw] at h
     obtain⟨v,O,hk⟩:=FK h
     rw[rk] at hk
     rw[<-M.eval] at O
     exact Ee ho z hf hr a8 af J (.inl ⟨hw,O⟩) hS ((gj A z p B _ S _ w _ fuel W a6 hS (M.put hd v) hk).1 hp)
    .rw[aso hw] at h
     exact Ee ho z hf hr a8 af J (.inr ⟨by simpa using hw,rfl⟩) hS ((gj A z p B _ S _ w _ fuel W a6 hS (M.put hd undef) h).1 hp)
  .exact h.elim,λhk=>by simp[dV] at hk⟩
 | .DF i p,B,l,S,F,w,a,fuel,hl,J,hS,M,h=>by
  have V:i∈Region.ready .any ops l->dV ops true B p (l.setIfInBounds i true)=true->Ed P ops X i (λZ u=>(hasB B (l.setIfInBounds i true)=false->S u)/\mC P .any ops (λZ u=>∃F',tJ n Z F' ds/\K F' u) X B S (fuel-1) (l.setIfInBounds i true) Z u) a w:=λaq hp=>by
   rw[xD] at h
   split at h
   .rename_i o hi
    have ho:ops[i]? =some o:=by simpa using hi
    have hd:=A o (asq hi)
    have h:=mS M h
    have W:p.an<=fuel-1:=by simp[iz.an] at hl;omega
    have fin:∀v u,nx S u (λS'=>fA P ops.toList K X p S' (de F o.dst v) u)->(hasB B (l.setIfInBounds i true)=false->S u)/\mC P .any ops (λZ u=>∃F',tJ n Z F' ds/\K F' u) X B S (fuel-1) (l.setIfInBounds i true) (a.put o.dst v) u:=λv u O=>by
     rw[vG] at O
     obtain⟨S',h1,h2,h3⟩:=O
     exact⟨λ_=>h2 _ h1,xm h2 _ _ _ _ ((gj A z p B _ S' _ u _ (fuel-1) W (J.set aq) h1 (M.put hd v) h3).1 hp)⟩
    unfold Ed
    simp only[ho]
    split
    .rename_i hw
     rw[asp hw] at h
     have h1:=xJ h
     rw[<-M.eval] at h1
     exact h1.mono λv u O=>fin v u (by rw[rk] at O;exact O)
    .rename_i hw
     rw[aso hw] at h
     exact fin undef w h
   .exact h.elim
  refine⟨λhk=>?_,λhk i' av a1=>?_⟩
  .simp only[dV,awj,Bool.false_or,asv,avB] at hk
   obtain⟨fuel,rfl⟩:∃f,fuel=f+1:=⟨fuel-1,by simp[iz.an] at hl;omega⟩
   refine Hr hk.1 (by simp) λj hj=>?_
   obtain rfl:j=i:=by simpa using hj
   exact V (by rw[hk.1];exact ass) hk.2
  .simp only[dV,Bool.not_false,Bool.true_or,aui] at hk
   obtain rfl:i'=i:=by simpa[iz.idx] using av
   exact V a1 hk
 | .alt i p q,B,l,S,F,w,a,fuel,hl,J,hS,M,h=>by
  rw[xG] at h
  obtain⟨h,hq⟩:=h
  have b3:p.an+1<=fuel:=by simp[iz.an] at hl;omega
  have b1:q.an<=fuel:=by simp[iz.an] at hl;omega
  have V:i∈Region.ready .any ops l->dV ops true B p (l.setIfInBounds i true)=true->Ed P ops X i (λZ u=>(hasB B (l.setIfInBounds i true)=false->S u)/\mC P .any ops (λZ u=>∃F',tJ n Z F' ds/\K F' u) X B S (fuel-1) (l.setIfInBounds i true) Z u) a w:=λaq hp=>by
   split at h
   .rename_i o hi
    have ho:ops[i]? =some o:=by simpa using hi
    have hd:=A o (asq hi)
    have h:=mS M h
    have W:p.an<=fuel-1:=Y
    have fin:∀v u,nx S u (λS'=>fA P ops.toList K X p S' (de F o.dst v) u)->(hasB B (l.setIfInBounds i true)=false->S u)/\mC P .any ops (λZ u=>∃F',tJ n Z F' ds/\K F' u) X B S (fuel-1) (l.setIfInBounds i true) (a.put o.dst v) u:=λv u O=>by
     rw[vG] at O
     obtain⟨S',h1,h2,h3⟩:=O
     exact⟨λ_=>h2 _ h1,xm h2 _ _ _ _ ((gj A z p B _ S' _ u _ (fuel-1) W (J.set aq) h1 (M.put hd v) h3).1 hp)⟩
    unfold Ed
    simp only[ho]
    split
    .rename_i hw
     rw[asp hw] at h
     have h1:=xJ h
     rw[<-M.eval] at h1
     exact h1.mono λv u O=>fin v u (by rw[rk] at O;exact O)
    .rename_i hw
     rw[aso hw] at h
     exact fin undef w h
   .exact h.elim
  have a7:=(gj A z q B l S F w a fuel b1 J hS M hq).2
  refine⟨λhk=>?_,λhk i' av a1=>?_⟩
  .simp only[dV,awj,Bool.false_or,asv,avB] at hk
   obtain⟨⟨h1,h2⟩,h3⟩:=hk
   obtain⟨fuel,rfl⟩:∃f,fuel=f+1:=⟨fuel-1,Y⟩
   refine Hr h1 (by simp) λj hj=>?_
   rcases asM.1 hj with rfl|hj
   .exact V Yg h2
   .exact a7 h3 j hj Yg
  .simp only[dV,Bool.not_false,Bool.true_or,aui,asv] at hk
   rcases asM.1 av with rfl|hj
   .exact V a1 hk.1
   .exact a7 hk.2 i' hj a1
 | .UJ p,B,l,S,F,w,a,fuel,hl,J,hS,M,h=>⟨λhk=>by
  simp only[dV,aui,asv] at hk
  obtain⟨ab,hp⟩:=hk
  rw[Eh] at h
  obtain⟨S',h1,h2⟩:=h
  refine Hp fuel l a w (λi hi=>?_) ((gj A z p [] l S' F w a fuel hl J h1 M h2).1 hp)
  have b0:i<l.size:=by
   rcases auG i l.size with h'|h'
   .exact h'
   .simp[avc h'] at hi
  have:=asH.1 ab i (as0.2 b0)
  rw[hi,Bool.false_or,auY] at this
  obtain⟨x,hx,ay⟩:=this
  rw[atx ay];exact hx,λhk=>by simp[dV] at hk⟩
theorem exists_least{p:Nat->Prop}:∀n,p n->∃m,p m/\∀k,p k->m<=k:=by
 intro n;induction n using Nat.strongRecOn with
 |_ n u=>
  intro z;by_cases h:∃k,k<n/\p k
  .exact Yg
  .exact Yg
open Classical in
noncomputable def xK (p:Nat->Prop):Nat:=if h:∃n,p n then Classical.choose (exists_least h.choose h.choose_spec) else 0
theorem yM{p:Nat->Prop}(h:∃n,p n):p (xK p):=by
 unfold xK;rw[dif_pos h];exact(Classical.choose_spec (exists_least h.choose h.choose_spec)).1
theorem Ej{p:Nat->Prop}{n:Nat}(h:p n):xK p<=n:=by
 have u:∃n,p n:=⟨n,h⟩;unfold xK;rw[dif_pos u];exact(Classical.choose_spec (exists_least u.choose u.choose_spec)).2 n h
theorem eP:∀(c:Code),AU n c=true->∀(K:KK) (F:Fr) (ds:List Deferred) (w0:World) (r:Option Nat) (a:Act),(r=none\/eO c=true)->tJ n a F ds->V P c K F ds (z w0)->c.wpIn (Fw r) 0 P (KQ n K) a w0
 | .skip,_,K,F,ds,w0,r,a,hr,hg,h=>wpIn_skip ⟨F,by obtain⟨h1,h2,rfl⟩:=hg;exact⟨⟨h1,h2,rfl⟩,h⟩⟩
 | .label _,_,K,F,ds,w0,r,a,hr,hg,h=>wpIn_label ⟨F,by obtain⟨h1,h2,rfl⟩:=hg;exact⟨⟨h1,h2,rfl⟩,h⟩⟩
 | .exit _,_,K,F,ds,w0,r,a,hr,hg,h=>wpIn_exit ⟨F,by obtain⟨h1,h2,rfl⟩:=hg;exact⟨⟨h1,h2,rfl⟩,h⟩⟩
 | .ret,_,K,F,ds,w0,r,a,hr,hg,h=>wpIn_ret ⟨F,by obtain⟨h1,h2,rfl⟩:=hg;exact⟨⟨h1,h2,rfl⟩,h⟩⟩
 | .seq x y,hwf,K,F,ds,w0,r,a,hr,hg,h=>by
  obtain⟨hx,hy⟩:=ft hwf
  refine awr (at0 (eP x hx _ F ds w0 r a (hr.imp id λh=>(ft h).1) hg h) λe a' w' hq=>?_)
  obtain⟨F',hg',hk⟩:=hq
  cases e with
  |normal=>exact eP y hy K F' _ w' r a' (hr.imp id λh=>(ft h).2) hg' hk
  |_=>exact⟨F',hg',hk⟩
 | .cond c x y,hwf,K,F,ds,w0,r,a,hr,hg,h=>by
  obtain⟨hx,hy⟩:=ft hwf
  rw[J4] at h
  split at h
  .rename_i ht
   exact avS (t:=true) (by rw[hg.eval];exact ht) (λe=>eP x hx K F ds w0 r a (hr.imp id λh=>(ft h).1) hg h) λe=>by cases e
  .rename_i ht
   exact avS (t:=false) (by rw[hg.eval];exact ht) (λe=>by cases e) λe=>eP y hy K F ds w0 r a (hr.imp id λh=>(ft h).2) hg h
  .exact h.elim
 | .block id c,hwf,K,F,ds,w0,r,a,hr,hg,h=>by
  refine wpIn_block (at0 (eP c hwf _ F ds w0 r a hr hg h) λe a' w' hq=>?_)
  obtain⟨F',hg',hk⟩:=hq
  cases e with
  |exit i=>
   show if i=id then _ else _
   split
   .rename_i hi
    subst hi
    simp only[auw,cond_true] at hk
    exact⟨F',hg',hk⟩
   .rename_i hi
    have:Nat.beq i id=false:=by
     cases hb:Nat.beq i id with
     |true=>exact absurd (atx hb) hi
     |false=>rfl
    simp only[this,cond_false] at hk
    exact⟨F',hg',hk⟩
  |_=>exact⟨F',hg',hk⟩
 | .region _ ops false,hwf,K,F,ds,w0,r,a,hr,hg,h=>wpIn_region_list (uD (AZ hwf) ops.toList F w0 a (λ_ ho=>ho) hg (.refl _ _) h)
 | .region _ ops true,hwf,K,F,ds,w0,r,a,hr,hg,h=>by
  rw[PY,lZ] at h
  obtain⟨hm,p,B,S,hok,hS,hp⟩:=h
  unfold pU at hok
  obtain⟨⟨h1,h2⟩,h3⟩:(Region.noSelect ops=true/\dV ops true B p (Array.replicate ops.size false)=true)/\Nat.ble p.an ops.size=true:=by
   have:=ft hok;exact⟨ft this.1,this.2⟩
  refine wp_region_any (Inv:=λa'=>∃F',tJ n a' F' ds/\vu (wr ops.toList) F F') (Q:=λa' w'=>∃F',tJ n a' F' ds/\K .normal F' ds w') hm (λa' o v ho ⟨F',g,hoff⟩=>⟨de F' o.dst v,g.put (AZ hwf o ho) v,hoff.fH (λj hj=>AX o ho j hj) v⟩) (λa' w' hq=>?_) (λch a' w' ⟨F',⟨i1,i2,i3⟩,hoff⟩ hx=>⟨F',by subst i3;exact⟨⟨i1,i2,rfl⟩,hx F' hoff⟩⟩) ⟨F,hg,.refl _ _⟩ ((gj (AZ hwf) h1 p B _ S F _ a _ (asB h3) (Cl.bH _) hS hg hp).1 h2)
  obtain⟨F',⟨g1,g2,g3⟩,hk⟩:=hq
  subst g3
  exact⟨F',⟨g1,g2,rfl⟩,hk⟩
 | .loop c,hwf,K,F,ds,w0,r,a,hr,hg,h=>by
  rw[J5,rm] at h
  obtain⟨I,⟨n0,h0⟩,hs⟩:=h
  let J:Act->World->Nat->Prop:=λa' w' m=>∃F' ds',tJ n a' F' ds'/\I m F' ds' (z w')
  refine wpIn_loop (λa' w'=>∃m,J a' w' m) (λa' w'=>xK (J a' w')) ⟨n0,F,ds,hg,h0⟩ λa1 w1 hex=>?_
  obtain⟨F1,ds1,hg1,hi⟩:=yM hex
  refine at0 (eP c hwf _ F1 ds1 w1 r a1 hr hg1 (hs _ F1 ds1 (z w1) hi)) λe a' w' hq=>?_
  obtain⟨F',hg',hk⟩:=hq
  cases e with
  |normal=>
   obtain⟨m,hm,hi'⟩:=hk
   exact⟨⟨m,F',_,hg',hi'⟩,avw (Ej ⟨F',_,hg',hi'⟩) hm⟩
  |_=>exact⟨F',hg',hk⟩
 | .rangeFunc g ps asm b,hwf,K,F,ds,w0,r,a,hr,hg,h=>by
  rw[L9,xH] at h
  obtain rfl:=hr.resolve_right (by simp[eO])
  refine at0 (h a w0 rfl hg.2.1 hg.2.2 (by rw[hg.1];exact hwf)) λe a' w' ⟨h1,h2⟩=>⟨F,⟨by rw[h1];exact hg.1,by rw[h1];exact hg.2.1,rfl⟩,h2⟩
 | .scope _,_,_,_,_,_,_,_,_,_,h=>h.elim
 | .goto _,_,_,_,_,_,_,_,_,_,h=>h.elim
 | .refuse _,_,_,_,_,_,_,_,_,_,h=>h.elim
def Holds(P:Program)(t:TypeId)(ad:Addr)(w:World)(v:Value):Prop:=∀w0,z w0=w->(loadVar t ad).run P w0=.ok v w0
structure Hx (P:Program) (t:TypeId) (x:Value) (w:World) (K:Value->Prop):Prop where
 fI::
 fR:∃ad v,x=.pointer (some ad)/\Holds P t ad w v/\K v
theorem Hy{P:Program}{t:TypeId}{x:Value}{K:Value->Prop}:Hx P t x w K=(∃ad v,x=.pointer (some ad)/\Holds P t ad w v/\K v):=propext ⟨λh=>h.fR,λh=>⟨h⟩⟩
def zf(P:Program)(F:Fr)(w:World):List ResultVar->aW->(aW->Prop)->Prop
 |[],acc,K=>K acc.reverse
 | .tmp t::r,acc,K=>zf P F w r (F t::acc) K
 | .cell t ty::r,acc,K=>Hx P ty (F t) w λv=>zf P F w r (v::acc) K
def FM:aW->Value
 |[v]=>v
 |vs=>.tuple vs.toArray
def gU:List Deferred->World->Option World
 |[],w=>some w
 |d::ds,w=>match d.target with
  | .collected r=>match w.heap[r]? with
   |some (.deferred (some []))=>gU ds {w with heap:=w.heap.setIfInBounds r (.deferred none)}
   |_=>none
  |_=>none
structure Be (P:Program) (rs:List ResultVar) (F:Fr) (ds:List Deferred) (R:VK) (w:World):Prop where
 fI::
 fR:
 ∃w',gU ds w=some w'/\zf P F w' rs [] λvs=>R (FM vs) w'
theorem lV{P:Program}{rs:List ResultVar}{ds:List Deferred}{R:VK}:Be P rs F ds R w=(∃u,gU ds w=some u/\zf P F u rs [] λvs=>R (FM vs) u):=propext ⟨λh=>h.fR,λh=>⟨h⟩⟩
def ZI(P:Program)(rs:List ResultVar)(R:VK):KK:=λe F ds w=>match e with
 | .normal| .ret=>Be P rs F ds R w
 |_=>False
def Xe(P:Program)(rs:List ResultVar)(R:VK)(X:XK):KK:=λe F ds w=>match e with
 | .normal| .ret=>Be P rs F ds R w
 | .panic ch=>ds=[]/\X ch w
 |_=>False
def init:aW->Fr
 |[]=>λ_=>undef
 |v::r=>λj=>match j with|0=>v|j+1=>init r j
theorem xL:∀(l:aW) (j:Nat),init l j=l.getD j undef
 |[],j=>by simp[init]
 |v::r,0=>rfl
 |v::r,j+1=>by simpa[init] using xL r j
theorem NM{r:Nat}(h:w.heap[r]? =some (.deferred (some []))):(Instr.takeDeferred r).run P w=.ok [] {w with heap:=w.heap.setIfInBounds r (.deferred none)}:=by
 simp[Instr.takeDeferred,getObj,setObj,Sem.run,h,Bind.bind,Sem.bind]
def vJ(tmps:Array Value):ResultVar->Sem Value
 | .tmp t=>pure (tmps.getD t undef)
 | .cell ad t=>do loadVar t (<-asAddr (tmps.getD ad undef))
theorem uE{a:Act}{F:Fr}(u:∀t,a.tmps.getD t undef=F t){w0:World}:∀(rs:List ResultVar) (acc:aW) (K:aW->Prop),zf P F (z w0) rs acc K->∃vs,(rs.mapM (vJ a.tmps)).run P w0=.ok vs w0/\K (acc.reverse++vs)
 |[],acc,K,h=>⟨[],rfl,by simpa[zf] using h⟩
 | .tmp t::r,acc,K,h=>by
  obtain⟨vs,A,hk⟩:=uE u r _ K h
  refine⟨F t::vs,?_,by simpa using hk⟩
  simp only[List.mapM_cons,asI,vJ,atr,asJ,A]
  rw[u]
 | .cell t ty::r,acc,K,h=>by
  unfold zf at h;rw[Hy] at h
  obtain⟨ad,v,J,M,hk⟩:=h
  obtain⟨vs,A,hk⟩:=uE u r _ K hk
  refine⟨v::vs,?_,by simpa using hk⟩
  have h1:=M w0 rfl
  have O:(asAddr (a.tmps.getD t undef)).run P w0=.ok ad w0:=by rw[u,J];rfl
  simp only[List.mapM_cons,asI,vJ,O,atr,asJ,h1,A]
theorem Hz{fn:Func}{a:Act}{vs:aW}{w0:World}(h:(fn.results.toList.mapM (vJ a.tmps)).run P w0=.ok vs w0):(results fn a.tmps).run P w0=.ok (FM vs) w0:=by
 have e:results fn a.tmps=(do let vs <-fn.results.mapM (vJ a.tmps);pure (if h:vs.size=1 then vs[0] else .tuple vs)):=by unfold results;congr 1
 rw[e,asI,Array.mapM_eq_mapM_toList,Sem.run_map,h];simp only[asJ];cases vs with
 |nil=>rfl
 |cons v r=>cases r<;>rfl
theorem jv{fn:Func}{a:Act}{R:VK}{R2:Ending->World->Prop}{F:Fr}(A:∀v w,R v (z w)->R2 (.returned v) w)(J:∀t,a.tmps.getD t undef=F t):∀(ds:List Deferred) (w0 u:World),gU ds (z w0)=some u->zf P F u fn.results.toList [] (λvs=>R (FM vs) u)->LeavesInM Fence.wide 0 P fn a.tmps R2 ds .returning w0
 |[],w0,u,hs,h=>by
  have e:u=z w0:=by simpa[gU] using hs.symm
  subst e
  obtain⟨vs,O,hk⟩:=uE J fn.results.toList [] _ h
  exact⟨FM vs,Hz O,A _ _ (by simpa using hk)⟩
 |d::ds,w0,u,hs,h=>by
  unfold gU at hs
  split at hs
  .rename_i r M
   split at hs
   .rename_i V
    refine⟨by simp,.inl ⟨r,_,M,NM V,?_⟩⟩
    exact jv A J ds _ u hs h
   .cases hs
  .cases hs
def body(f:Func):Code:=match f.body with|some c=>c|none=>.skip
def UK(fn:Func)(k:Nat):Bool:=AU fn.ntmps (body fn)&&fn.body.isSome&&Nat.ble k fn.ntmps
def uj(P:Program)(f:FuncId)(args:Array Value)(w:World)(R:VK)(X:XK):Prop:=∀w0,z w0=w->CallsIn Fence.wide 0 P f args w0 λe w'=>match e with| .returned v=>R v (z w')| .panicked ch=>X ch (z w')| .outgrown=>False
theorem aK.x{args:Array Value}{R:VK}{X:XK}(h:aK P f args w R):uj P f args w R X:=λw0 hw=>(h w0 hw).mono λ_ _ ⟨v,he,u⟩=>by subst he;exact u
theorem uj.mono{args:Array Value}{R z:VK}{X X':XK}(h:uj P f args w R X)(J:∀v u,R v u->z v u)(A:∀ch u,X ch u->X' ch u):uj P f args w z X':=λw0 hw=>(h w0 hw).mono λe _ he=>Yg
theorem aF{fn:Func}{args:aW}{R:VK}(hf:P.funcs[f]? =some fn)(hok:UK fn args.length=true)(h:V P (body fn) (ZI P fn.results.toList R) (init args) [] w):aK P f args.toArray w R:=by
 unfold UK at hok;obtain⟨⟨J,hs⟩,hle⟩:(AU fn.ntmps (body fn)=true/\fn.body.isSome=true)/\Nat.ble args.length fn.ntmps=true:=by have:=ft hok;exact⟨ft this.1,this.2⟩
 have hle:=asB hle;obtain⟨c,hc⟩:=auf.1 hs;have hb:body fn=c:=by simp[body,hc]
 rw[hb] at h J;intro w0 hw;subst hw;have hg:tJ fn.ntmps {tmps:=args.toArray++Array.replicate (fn.ntmps-args.toArray.size) undef,defers:=[]} (init args) []:=aog
 refine au5 (F:=Fence.wide) hf hc Yt (at0 (eP (r:=none) c J _ _ [] w0 _ (.inl rfl) hg h) λe a' w' hq=>?_);exact Y8
theorem vK{f:FuncId}{fn:Func}{args:aW}{w:World}{R:VK}{X:XK}(hf:P.funcs[f]? =some fn)(hok:UK fn args.length=true)(h:V P (body fn) (Xe P fn.results.toList R X) (init args) [] w):uj P f args.toArray w R X:=by
 unfold UK at hok;obtain⟨⟨J,hs⟩,hle⟩:(AU fn.ntmps (body fn)=true/\fn.body.isSome=true)/\Nat.ble args.length fn.ntmps=true:=by have:=ft hok;exact⟨ft this.1,this.2⟩
 have hle:=asB hle;obtain⟨c,hc⟩:=auf.1 hs;have hb:body fn=c:=by simp[body,hc]
 rw[hb] at h J;intro w0 hw;subst hw;have hg:tJ fn.ntmps {tmps:=args.toArray++Array.replicate (fn.ntmps-args.toArray.size) undef,defers:=[]} (init args) []:=aog
 refine au5 (F:=Fence.wide) hf hc Yt (at0 (eP (r:=none) c J _ _ [] w0 _ (.inl rfl) hg h) λe a' w' hq=>?_);obtain⟨F',hg',hk⟩:=hq;cases e with
 |normal=>
  exact X7
 |ret=>
  exact X7
 |panic ch=>
  obtain⟨hd,hx⟩:=hk;show LeavesInM Fence.wide 0 P fn a'.tmps _ a'.defers (.panicking ch) w';rw[hd];exact hx
 |_=>exact hk.elim
def Has(F:Fr):List (Nat×Value)->Prop
 |[]=>True
 |p::r=>F p.1=p.2/\Has F r
def PZ(W:List Nat)(F G:Fr):Fr:=λj=>bif xI j W then G j else F j
def FN:List (Nat×Value)->Fr->Fr
 |[],F=>F
 |p::r,F=>fH (FN r F) p.1 p.2
theorem rq{F:Fr}:∀{l:List (Nat×Value)},Has F l->FN l F=F
 |[],_=>rfl
 |p::r,⟨h1,z⟩=>by
  unfold FN
  rw[rq z]
  funext j
  show(bif Nat.beq j p.1 then p.2 else F j)=F j
  cases u:Nat.beq j p.1 with
  |true=>rw[atx u,h1];rfl
  |false=>rfl
structure P0 {σ:Type} (enc:σ->List (Nat×Value)) (I:σ->World->Prop) (μ:σ->World->Nat) (m:Nat) (F:Fr) (w:World):Prop where
 fI::
 fR:∃s,Has F (enc s)/\I s w/\μ s w<m
theorem HA{σ:Type}{enc:σ->List (Nat×Value)}{I:σ->World->Prop}{μ:σ->World->Nat}:P0 enc I μ m F w=(∃s,Has F (enc s)/\I s w/\μ s w<m):=propext ⟨λh=>h.fR,λh=>⟨h⟩⟩
theorem next{σ:Type}{enc:σ->List (Nat×Value)}{I:σ->World->Prop}{μ:σ->World->Nat}(s:σ)(h:Has F (enc s))(hi:I s w)(hm:μ s w<m):P0 enc I μ m F w:=by
 rw[HA];exact⟨s,h,hi,hm⟩
theorem aM{c:Code}{K:KK}{F0:Fr}{ds:List Deferred}{w0:World}{σ:Type}(enc:σ->List (Nat×Value))(I:σ->World->Prop)(μ:σ->World->Nat)(s0:σ)(h0:Has F0 (enc s0))(hI:I s0 w0)(hr:eO c=true:=by rfl)(step:∀(G:Fr) (s:σ) (w:World),I s w->V P c (λe F' _ w'=>match e with| .normal=>P0 enc I μ (μ s w) F' w'|e=>K e F' ds w') (FN (enc s) (PZ (writes c) F0 G)) ds w):yL c (V P c) K F0 ds w0:=by
 rw[rm];refine⟨λn F J w=>J=ds/\vu (writes c) F0 F/\∃s,Has F (enc s)/\I s w/\μ s w=n,⟨_,rfl,.refl _ _,s0,h0,hI,rfl⟩,?_⟩;rintro n F J w ⟨rfl,hf,s,hs,hi,rfl⟩;have hm:PZ (writes c) F0 F=F:=funext λj=>X8
 have h1:=step F s w hi;rw[hm,rq hs] at h1;refine AY c _ _ F J w (λe F' a6 w' O hd h=>?_) h1;cases e with
 |normal=>
  rw[HA] at h;obtain⟨s',a1,a2,a3⟩:=h;exact⟨_,a3,hd hr,hf.trans (O λ_ e=>by cases e),s',a1,a2,rfl⟩
 |_=>
  rw[hd hr];exact h
structure Kc {α β:Type} (enc:α->β->List (Nat×Value)) (I:α->β->World->Prop) (μ:α->β->World->Nat) (m:Nat) (F:Fr) (w:World):Prop where
 fI::
 fR:∃(a:α) (b:β),Has F (enc a b)/\I a b w/\μ a b w<m
theorem Ek{α β:Type}{enc:α->β->List (Nat×Value)}{I:α->β->World->Prop}{μ:α->β->World->Nat}:Kc enc I μ m F w=(∃(a:α) (b:β),Has F (enc a b)/\I a b w/\μ a b w<m):=propext ⟨λh=>h.fR,λh=>⟨h⟩⟩
theorem rr{α β:Type}{enc:α->β->List (Nat×Value)}{I:α->β->World->Prop}{μ:α->β->World->Nat}(a:α)(b:β)(h:Has F (enc a b))(hi:I a b w)(hm:μ a b w<m):Kc enc I μ m F w:=by
 rw[Ek];exact⟨a,b,h,hi,hm⟩
theorem HB{c:Code}{K:KK}{A:Fr}{ds:List Deferred}{w0:World}{α β:Type}(enc:α->β->List (Nat×Value))(I:α->β->World->Prop)(μ:α->β->World->Nat)(a0:α)(z:β)(Y:Has A (enc a0 z))(O:I a0 z w0)(M:eO c=true:=by rfl)(step:∀(G:Fr) (a:α) (b:β) (w:World),I a b w->V P c (λe J _ u=>match e with| .normal=>Kc enc I μ (μ a b w) J u|e=>K e J ds u) (FN (enc a b) (PZ (writes c) A G)) ds w):yL c (V P c) K A ds w0:=by
 refine aM (λs:α×β=>enc s.1 s.2) (λs=>I s.1 s.2) (λs=>μ s.1 s.2) (a0,z) Y O M λG s w hi=>AY c _ _ _ ds w (λe J Z u _ _ h=>?_) (step G s.1 s.2 w hi);cases e with
 |normal=>
  rw[Ek] at h;obtain⟨a,b,h1,X,W⟩:=h;exact next (μ:=λs:α×β=>μ s.1 s.2) (a,b) h1 X W
 |_=>exact h
structure Kd {α β γ:Type} (enc:α->β->γ->List (Nat×Value)) (I:α->β->γ->World->Prop) (μ:α->β->γ->World->Nat) (m:Nat) (F:Fr) (w:World):Prop where
 fI::
 fR:∃(a:α) (b:β) (x:γ),Has F (enc a b x)/\I a b x w/\μ a b x w<m
theorem El{α β γ:Type}{enc:α->β->γ->List (Nat×Value)}{I:α->β->γ->World->Prop}{μ:α->β->γ->World->Nat}:Kd enc I μ m F w=(∃(a:α) (b:β) (x:γ),Has F (enc a b x)/\I a b x w/\μ a b x w<m):=propext ⟨λh=>h.fR,λh=>⟨h⟩⟩
theorem yN{α β γ:Type}{enc:α->β->γ->List (Nat×Value)}{I:α->β->γ->World->Prop}{μ:α->β->γ->World->Nat}(a:α)(b:β)(x:γ)(h:Has F (enc a b x))(hi:I a b x w)(hm:μ a b x w<m):Kd enc I μ m F w:=by
 rw[El];exact⟨a,b,x,h,hi,hm⟩
theorem HC{c:Code}{K:KK}{J:Fr}{ds:List Deferred}{w0:World}{α β γ:Type}(enc:α->β->γ->List (Nat×Value))(I:α->β->γ->World->Prop)(μ:α->β->γ->World->Nat)(a0:α)(A:β)(u:γ)(Z:Has J (enc a0 A u))(W:I a0 A u w0)(O:eO c=true:=by rfl)(step:∀(G:Fr) (a:α) (b:β) (x:γ) (w:World),I a b x w->V P c (λe M _ z=>match e with| .normal=>Kd enc I μ (μ a b x w) M z|e=>K e M ds z) (FN (enc a b x) (PZ (writes c) J G)) ds w):yL c (V P c) K J ds w0:=by
 refine aM (λs:α×β×γ=>enc s.1 s.2.1 s.2.2) (λs=>I s.1 s.2.1 s.2.2) (λs=>μ s.1 s.2.1 s.2.2) (a0,A,u) Z W O λG s w hi=>AY c _ _ _ ds w (λe M a1 z _ _ h=>?_) (step G s.1 s.2.1 s.2.2 w hi);cases e with
 |normal=>
  rw[El] at h;obtain⟨a,b,x,h1,Y,X⟩:=h;exact next (μ:=λs:α×β×γ=>μ s.1 s.2.1 s.2.2) (a,b,x) h1 Y X
 |_=>exact h
structure Ke {α β γ δ:Type} (enc:α->β->γ->δ->List (Nat×Value)) (I:α->β->γ->δ->World->Prop) (μ:α->β->γ->δ->World->Nat) (m:Nat) (F:Fr) (w:World):Prop where
 fI::
 fR:∃(a:α) (b:β) (x:γ) (y:δ),Has F (enc a b x y)/\I a b x y w/\μ a b x y w<m
theorem Em{α β γ δ:Type}{enc:α->β->γ->δ->List (Nat×Value)}{I:α->β->γ->δ->World->Prop}{μ:α->β->γ->δ->World->Nat}:Ke enc I μ m F w=(∃(a:α) (b:β) (x:γ) (y:δ),Has F (enc a b x y)/\I a b x y w/\μ a b x y w<m):=propext ⟨λh=>h.fR,λh=>⟨h⟩⟩
theorem qN{α β γ δ:Type}{enc:α->β->γ->δ->List (Nat×Value)}{I:α->β->γ->δ->World->Prop}{μ:α->β->γ->δ->World->Nat}(a:α)(b:β)(x:γ)(y:δ)(h:Has F (enc a b x y))(hi:I a b x y w)(hm:μ a b x y w<m):Ke enc I μ m F w:=by
 rw[Em];exact⟨a,b,x,y,h,hi,hm⟩
theorem uk{c:Code}{K:KK}{M:Fr}{ds:List Deferred}{w0:World}{α β γ δ:Type}(enc:α->β->γ->δ->List (Nat×Value))(I:α->β->γ->δ->World->Prop)(μ:α->β->γ->δ->World->Nat)(a0:α)(J:β)(z:γ)(u:δ)(h0:Has M (enc a0 J z u))(X:I a0 J z u w0)(W:eO c=true:=by rfl)(step:∀(G:Fr) (a:α) (b:β) (x:γ) (y:δ) (w:World),I a b x y w->V P c (λe O _ A=>match e with| .normal=>Ke enc I μ (μ a b x y w) O A|e=>K e O ds A) (FN (enc a b x y) (PZ (writes c) M G)) ds w):yL c (V P c) K M ds w0:=by
 refine aM (λs:α×β×γ×δ=>enc s.1 s.2.1 s.2.2.1 s.2.2.2) (λs=>I s.1 s.2.1 s.2.2.1 s.2.2.2) (λs=>μ s.1 s.2.1 s.2.2.1 s.2.2.2) (a0,J,z,u) h0 X W λG s w hi=>AY c _ _ _ ds w (λe O a1 A _ _ h=>?_) (step G s.1 s.2.1 s.2.2.1 s.2.2.2 w hi);cases e with
 |normal=>
  rw[Em] at h;obtain⟨a,b,x,y,h1,Z,Y⟩:=h;exact next (μ:=λs:α×β×γ×δ=>μ s.1 s.2.1 s.2.2.1 s.2.2.2) (a,b,x,y) h1 Z Y
 |_=>exact h
end
end Go.Proofs.YtakcjkbnfegidaaGreat
namespace Go.Proofs.YtakcjkbnfegidaaGreat
open Go Go.RowKit Tryz
variable{D D':Nat->Prop}{c u w:World}{a:Addr}{b cap g n o sz:Nat}{v zv:Value}{e s t:TypeId}{cs xs:aW}{f:FuncId}{S:World->Prop}{K:Value->Prop}{kd:IntKind}{A:bZ}{args:Array Value}{R:VK}{F:Fr}{ops:Array Oper}{C:(World->Prop)->Prop}
abbrev ad(b o:Nat):Addr:=⟨b,o,none⟩
theorem ru(b o n:Nat):(ad b o).add n=ad b (o+n):=by
 unfold Addr.add;split
 .rename_i h;subst h;rfl
 .rfl
structure aj (D:Nat->Prop) (w w':World):Prop where
 os:w'.os=w.os
 tape:w'.tape=w.tape
 output:w'.output=w.output
 size:w.heap.size<=w'.heap.size
 aS:∀i,i<w.heap.size->D i->w'.heap[i]? =w.heap[i]?
abbrev ax(w w':World):Prop:=aj (λ_=>True) w w'
theorem aj.refl(D:Nat->Prop)(w:World):aj D w w:=⟨rfl,rfl,rfl,asN _,λ_ _ _=>rfl⟩
theorem aj.cU(h:aj D w u)(hd:∀i,i<w.heap.size->D' i->D i):aj D' w u:=⟨h.os,h.tape,h.output,h.size,λi hi z=>h.aS i hi (hd i hi z)⟩
theorem aj.trans{a b:World}(h:aj D a b)(k:aj D b c):aj D a c:=⟨k.os.trans h.os,k.tape.trans h.tape,k.output.trans h.output,atI h.size k.size,λi hi u=>(k.aS i (auH hi h.size) u).trans (h.aS i hi u)⟩
theorem aj.ag{a b:World}(h:aj D a b)(k:aj D' b c)(hd:∀i,i<a.heap.size->D i->D' i):aj D a c:=⟨k.os.trans h.os,k.tape.trans h.tape,k.output.trans h.output,atI h.size k.size,λi hi u=>(k.aS i (auH hi h.size) (hd i hi u)).trans (h.aS i hi u)⟩
theorem aj.ae{a b:World}(h:aj D a b)(k:ax b c):aj D a c:=h.ag k λ_ _ _=>Yt
theorem ax.any{a b:World}(h:ax a b):aj D a b:=h.cU λ_ _ _=>Yt
theorem aj.alloc(D:Nat->Prop)(w:World)(o:Obj):aj D w (w.alloc o):=⟨rfl,rfl,rfl,by simp,λi hi _=>Below.heap_alloc w o i hi⟩
theorem aj.setCell(w:World)(a:Addr)(v:Value):aj (λb=>b≠a.block) w (w.setCell a v):=⟨rfl,rfl,rfl,by simp[World.setCell],λi _ u=>Below.heap_setCell w a v i u⟩
theorem aj.ai{z:World}(h:aj D w z)(A:w.cell? a=some v)(J:D a.block):z.cell? a=some v:=by
 have u:=World.block_lt_of_cell? w a A;rw[World.cell?_of_block (h.aS a.block u J)];exact A
def aP(w:World)(g:Nat)(t:TypeId)(cs:aW):Prop:=w.heap[g]? =some (.cells cs.toArray t (0,0))
theorem aP.lt(h:aP w g t cs):g<w.heap.size:=(asV.1 h).1
theorem aP.ai(h:aP w g t cs){i:Nat}(u:cs[i]? =some v):w.cell? (ad g i)=some v:=by
 unfold aP at h;simp[World.cell?,h,u]
theorem aP.frozen(h:aP w g t cs)(i:Nat):w.frozen? (ad g i)=false:=by
 unfold aP at h;simp[World.frozen?,h]
theorem aP.new(w:World)(t:TypeId)(cs:aW):aP (w.alloc (.cells cs.toArray t)) w.heap.size t cs:=by
 unfold aP World.alloc;simp
theorem aP.ah(h:aP w g t cs)(k:aj D w u)(z:D g):aP u g t cs:=(k.aS g h.lt z).trans h
theorem aP.ae(h:aP w g t cs)(k:ax w u):aP u g t cs:=h.ah k Yt
theorem aP.set(h:aP w g t cs)(i:Nat)(v:Value):aP (w.setCell (ad g i) v) g t (cs.set i v):=by
 unfold aP at*;simp[World.setCell,avg,h]
theorem aP.uniq{z:TypeId}{u:aW}(h:aP w g t cs)(h':aP w g z u):t=z/\cs=u:=by
 unfold aP at*;rw[h] at h';injection h' with h';injection h' with h1 A;exact⟨A,by simpa using h1⟩
def FO(P:Program)(t:TypeId):Bool:=match P.underlying t with|some (.struct _)|some (.array _ _)|none=>false|_=>true
class cF (P:Program) (t:TypeId):Prop where h:FO P t=true
def zN(P:Program)(t:TypeId):Option Nat:=match P.underlying t with|some (.struct _)|some (.array _ _)=>(P.info? t).map (·.size)|_=>none
class dJ (P:Program) (t:TypeId) (n:outParam Nat):Prop where h:zN P t=some n
def zO(P:Program)(t:TypeId):Option (TypeId×Nat):=match P.underlying t with|some (.slice e)=>(P.info? e).map λi=>(e,i.size)|_=>none
class cu (P:Program) (t:TypeId) (e:outParam TypeId) (sz:outParam Nat):Prop where h:zO P t=some (e,sz)
def Kf(P:Program)(s:TypeId)(f:Nat):Option (TypeId×Nat):=match P.underlying s with
 |some (.struct fs)=>match fs[f]? with|some fd=>(match P.info? fd.type with|some i=>if i.size=0 then none else some (fd.type,fd.offset)|none=>none)|none=>none
 |_=>none
class bB (P:Program) (s:TypeId) (f:Nat) (t:outParam TypeId) (o:outParam Nat):Prop where h:Kf P s f=some (t,o)
def zeroOf(P:Program)(t:TypeId):Option Value:=(P.info? t).bind (·.zero)
class bQ (P:Program) (t:TypeId) (zv:outParam Value):Prop where h:zeroOf P t=some zv
def bytesOf(P:Program)(t:TypeId):Option Nat:=(P.info? t).map (·.bytes)
class fw (P:Program) (t:TypeId) (n:outParam Nat):Prop where h:bytesOf P t=some n
def intOf(P:Program)(t:TypeId):Option IntKind:=match P.underlying t with|some (.int k)=>some k|_=>none
class qO (P:Program) (t:TypeId) (k:outParam IntKind):Prop where h:intOf P t=some k
class Enters (P:Program) (f:FuncId):Prop where h:∀args w,(callFunc f args).run P w=.ok (.enter f args) w
theorem Enters.of{P:Program}{fn:Func}(z:P.funcs[f]? =some fn)(u:(fn.name == "runtime.NumGoroutine")=false)(J:fn.body.isSome=true):Enters P f:=
 ⟨λargs w=>by
  have h1:fn.name≠ "runtime.NumGoroutine":=by simpa using u
  obtain⟨c,A⟩:=auf.1 J
  simp[callFunc,z,h1,A]⟩
section
variable {P:Program} {X:XK}
theorem cF.und{t:TypeId}(h:cF P t):∃d,P.underlying t=some d/\(match d with| .struct _| .array _ _=>true|_=>false)=false:=by
 have:=h.h;unfold FO at this;cases hd:P.underlying t with
 |none=>rw[hd] at this;cases this
 |some d=>refine⟨d,rfl,?_⟩;rw[hd] at this;cases d<;>first|rfl|cases this
theorem ry(h:cF P t)(w:World):(isAgg t).run P w=.ok false w:=by
 obtain⟨d,hd,he⟩:=h.und;exact YY
theorem gu(h:zN P t=some n):(∃d,P.underlying t=some d/\(match d with| .struct _| .array _ _=>true|_=>false)=true)/\∃i,P.info? t=some i/\i.size=n:=by
 unfold zN at h;split at h
 .rename_i u hd;exact⟨⟨_,hd,rfl⟩,by cases hi:P.info? t<;>simp_all⟩
 .rename_i l e hd;exact⟨⟨_,hd,rfl⟩,by cases hi:P.info? t<;>simp_all⟩
 .cases h
theorem iF(h:zN P t=some n)(w:World):(isAgg t).run P w=.ok true w:=by
 obtain⟨⟨d,hd,he⟩,_⟩:=gu h;exact YY
theorem run_sizeOf{i:TypeInfo}(h:P.info? t=some i)(w:World):(sizeOf t).run P w=.ok i.size w:=by
 simp[sizeOf,typeInfo,h]
def bF(w:World)(b o:Nat)(cs:aW):Prop:=∀j v,cs[j]? =some v->w.cell? (ad b (o+j))=some v
theorem bF.ah(h:bF w b o cs)(k:aj D w u)(A:D b):bF u b o cs:=λj v z=>k.ai (h j v z) A
theorem bF.app{ys:aW}(h:bF w b o (xs++ys)):bF w b o xs/\bF w b (o+xs.length) ys:=⟨λj v u=>h j v (by rw[asR (by have:=(asr.1 u).1;exact this)];exact u),λj v u=>by have:=h (xs.length+j) v (by rw[asY Y];simpa using u);rwa [<-avH] at this⟩
theorem run_loadCells{w:World}{b:Nat}:∀(cs:aW) (o i:Nat) (acc:Array Value),(∀j v,cs[j]? =some v->w.cell? (ad b (o+(i+j)))=some v)->(loadCellsFrom (ad b o) i cs.length acc).run P w=.ok (acc++cs.toArray) w
 |[],o,i,acc,_=>by simp[loadCellsFrom]
 |c::cs,o,i,acc,h=>by
  have A:=h 0 c rfl
  have u:=run_loadCells cs o (i+1) (acc.push c) (λj v z=>by have:=h (j+1) v z;rwa [show i+(j+1)=i+1+j from Y] at this)
  simp only[as2,loadCellsFrom,asI,run_load,ru]
  rw[show o+i=o+(i+0) from rfl,A]
  simp only[asJ,u]
  simp
theorem bj[h:cF P t](u:w.cell? a=some v):Holds P t a w v:=λw0 hw=>by
 subst hw;have u:w0.cell? a=some v:=u;unfold loadVar;rw[asI,ry h];simp[u]
theorem bU[h:dJ P t n](A:bF w b o cs)(z:cs.length=n):Holds P t (ad b o) w (.agg cs.toArray):=λw0 hw=>by
 subst hw;obtain⟨_,i,hi,hs⟩:=gu h.h;unfold loadVar;rw[asI,iF h.h];simp only[asJ,auM,asI,run_sizeOf hi,hs];have:=run_loadCells (P:=P) (w:=w0) (b:=b) cs o 0 #[] (λj v u=>by have:=A j v u;simpa using this);unfold loadCells;rw[<-z,this];simp
theorem zP(h:∀w,S w->Holds P t a w v)(k:K v):kg P S t (.pointer (some a)) K:=by
 rw[ri];refine⟨v,λw hw w0 e=>?_,k⟩;have:=h w hw w0 e;rw[gG,show(Instr.loadAt t (.pointer (some a))).run P w0=(loadVar t a).run P w0 from rfl,this];exact⟨rfl,e⟩
theorem ld[cF P t](v:Value)(z:w.cell? a=some v)(k:K v):kg P (λu=>u=w) t (.pointer (some a)) K:=zP (λu e=>by subst e;exact bj z) k
theorem pb[cF P t](v:Value)(z:∀u,S u->u.cell? a=some v)(k:K v):kg P S t (.pointer (some a)) K:=zP (λu hu=>bj (z u hu)) k
theorem fj[dJ P t n](cs:aW)(A:bF w b o cs)(z:cs.length=n)(k:K (.agg cs.toArray)):kg P (λu=>u=w) t (.pointer (some (ad b o))) K:=zP (λu e=>by subst e;exact bU A z) k
theorem xM[dJ P t n](cs:aW)(A:∀u,S u->bF u b o cs)(z:cs.length=n)(k:K (.agg cs.toArray)):kg P S t (.pointer (some (ad b o))) K:=zP (λu hu=>bU (A u hu) z) k
theorem cD{p:Prop}[Decidable p](h1:p->K (.bool true))(u:¬p->K (.bool false)):nU p K:=.of ⟨h1,u⟩
theorem cE{x y:Int}(h1:x=y->K (.bool true))(u:x≠y->K (.bool false)):nU (x=y) K:=.of ⟨h1,u⟩
theorem cN{x y:Int}(h1:x≠y->K (.bool true))(u:x=y->K (.bool false)):nU (x≠y) K:=.of ⟨h1,λh=>u Y⟩
theorem cB{p:Prop}[Decidable p](b:Bool)(u:b=decide p)(k:K (.bool b)):nU p K:=.of ⟨λh=>Yg,λh=>Yg⟩
theorem eD{n:Int}(h: -9223372036854775808<=n/\n<=9223372036854775807)(k:K (.int .i64 n)):PM .i64 n K:=by
 rw[pR];have:=IntWalk.i64_in n h;rw[this];exact k
theorem arW{n:Int}(k:K (.int kd (kd.wrap n))):PM kd n K:=by rw[pR];exact k
theorem aqg{op:BinOp}{a b:Int}(c:Int)(h:bits op kd a b=c)(k:K (.int kd c)):J1 op kd a b K:=by rw[mR];rw[h];exact k
theorem vL{a b:Int}(z:0<b)(u:0<=a)(hm:a<=9223372036854775807)(k:K (.int .i64 (a/b))):PN .i64 a b K:=by
 rw[vC];refine⟨Y,?_⟩;rw[Int.tdiv_eq_ediv_of_nonneg u];have h1:0<=a/b:=aue u Y;have A:a/b<=a:=Int.ediv_le_self b u;rw[IntWalk.i64_in (a/b) ⟨Y,Y⟩];exact k
theorem ZJ{a b:Int}(z:0<b)(u:0<=a)(k:K (.int kd (a%b))):PO kd a b K:=by
 rw[zJ];exact⟨Y,by rw[auR u];exact k⟩
theorem ajT{a b:Int}(u:0<=b)(k:K (.int kd (a.fdiv (2 ^ (min b.toNat kd.bits))))):UH kd a b K:=by rw[zK];exact⟨u,k⟩
theorem conv{u k:IntKind}{n:Int}[J:qO P s u][h:qO P t k](z:K (.int k (k.wrap n))):Ef P s t (.int u n) K:=by
 rw[AG];have hs:P.underlying s=some (.int u):=by have:=J.h;unfold intOf at this;split at this<;>simp_all
 have A:P.underlying t=some (.int k):=by have:=h.h;unfold intOf at this;split at this<;>simp_all
 refine cW (λw=>?_) z;simp[convert,asX hs,asX A,Conv.intToInt]
theorem dF{t e:TypeId}{sz:Nat}(h:zO P t=some (e,sz)):P.underlying t=some (.slice e)/\∃i,P.info? e=some i/\i.size=sz:=by
 unfold zO at h;split at h
 .rename_i u he;cases hi:P.info? u with
  |none=>rw[hi] at h;cases h
  |some i=>rw[hi] at h;simp at h;obtain⟨rfl,rfl⟩:=h;exact⟨he,i,hi,rfl⟩
 .cases h
theorem idx[h:cu P t e sz]{c:Nat}{i:Int}(k:Nat)(hi:i=k)(hk:k<n)(z:K (.pointer (some (ad b (o+k*sz))))):LZ P t (.slice (some (ad b o)) n c) (.int kd i) K:=by
 rw[vD];obtain⟨hu,inf,u,hs⟩:=dF h.h;subst hi;refine cW (λw=>?_) z;have A:(0:Int)<=(k:Int)/\(k:Int)<(n:Int):=Y;simp[Instr.indexAt,asIntOf,asX hu,run_sizeOf u,hs,ru,hk]
theorem yO{f:Nat}(h:Kf P s f=some (t,o)):∃u fd,P.underlying s=some (.struct u)/\u[f]? =some fd/\fd.type=t/\fd.offset=o/\∃i,P.info? t=some i/\i.size≠0:=by
 unfold Kf at h;split at h
 .exact Yg
 .cases h
theorem bC{f:Nat}[h:bB P s f t o]{q:Nat}(u:K (.pointer (some (ad b (q+o))))):PQ P s (.pointer (some (ad b q))) f K:=by
 rw[AH];obtain⟨J,fd,hs,A,rfl,rfl,i,hi,z⟩:=yO h.h;refine cW (λw=>?_) u;simp[Instr.fieldAt,asX hs,A,Instr.sureAddr,fieldPlace,run_sizeOf hi,z,ru]
theorem ZK{f:Nat}[h:bB P s f t o][A:cF P t](v:Value)(z:cs[o]? =some v)(u:K v):PR P s (.agg cs.toArray) f K:=by
 rw[AJ];obtain⟨O,fd,hs,J,rfl,rfl,i,hi,M⟩:=yO h.h;refine cW (λw=>?_) u;simp[Instr.field,asX hs,J,asAgg,part,ry A,z]
theorem an[h:cu P t e sz]{c:Nat}(u:K (.int .i64 n)):Zz P t (.slice A n c) K:=by
 rw[FF];obtain⟨hu,_⟩:=dF h.h;refine cW (λw=>?_) u;simp[Builtin.len_,asX hu,goInt]
theorem rz[h:Enters P f]{K:VK}{X':XK}(c:uj P f args w R X')(k:∀v u,R v u->K v u)(z:∀ch u,X' ch u->X ch u):vF P f args K X w:=by
 rw[AQ];intro w0 hw;rw[h.h];exact(c.mono k z) w0 hw
theorem aJ[h:Enters P f]{K:VK}(c:aK P f args w R)(k:∀v u,R v u->K v u):vF P f args K X w:=rz (X':=X) c.x k λ_ _ h=>h
theorem um[h:Enters P f](c:∀w,S w->aK P f args w λu z=>u=v/\z=w)(k:K v):L1 P S f args K:=by
 rw[AK];refine⟨v,λw hw w0 e=>?_,k⟩;rw[h.h];exact c w hw w0 e
theorem ret{rs:List ResultVar}(h:zf P F w rs [] λvs=>R (FM vs) w):Be P rs F [] R w:=by rw[lV];exact⟨w,rfl,h⟩
theorem aQ{t:Nat}(v:Value)(u:F t=v)(h:R v w):Be P [.tmp t] F [] R w:=by rw[lV];exact⟨w,rfl,by subst u;exact h⟩
theorem mD(h:R (.tuple #[]) w):Be P [] F [] R w:=by rw[lV];exact⟨w,rfl,h⟩
theorem tK{t u:Nat}(v v':Value)(A:F t=v)(z:F u=v')(h:R (.tuple #[v,v']) w):Be P [.tmp t,.tmp u] F [] R w:=by
 rw[lV];exact⟨w,rfl,by subst A;subst z;exact h⟩
theorem xN{t u x:Nat}(v v' z:Value)(M:F t=v)(J:F u=v')(A:F x=z)(h:R (.tuple #[v,v',z]) w):Be P [.tmp t,.tmp u,.tmp x] F [] R w:=by
 rw[lV];exact⟨w,rfl,by subst M;subst J;subst A;exact h⟩
theorem da(v:Value)(h:Holds P t a w v)(k:K v):Hx P t (.pointer (some a)) w K:=by rw[Hy];exact⟨a,v,rfl,h,k⟩
theorem uo{K:Fr->World->Prop}(hm:P.follows .mixedOrders=true)(z:pU ops [] (L8 ops.toList.length 0)=true)(h:fA P ops.toList K X (L8 ops.toList.length 0) (λu=>u=w) F w):mM P ops K X F w:=by rw[lZ];exact⟨hm,_,_,λu=>u=w,z,rfl,h⟩
theorem ajU(os es:List Nat)(S:World->Prop){K:Fr->World->Prop}(hm:P.follows .mixedOrders=true)(u:pU ops [] (sU es os)=true)(z:S w)(h:fA P ops.toList K X (sU es os) S F w):mM P ops K X F w:=by rw[lZ];exact⟨hm,_,_,S,u,z,h⟩
theorem Xf(os es:List Nat){K:Fr->World->Prop}(hm:P.follows .mixedOrders=true)(z:pU ops [] (sU es os)=true)(h:fA P ops.toList K X (sU es os) (λu=>ax w u) F w):mM P ops K X F w:=by rw[lZ];exact⟨hm,_,_,_,z,aj.refl _ _,h⟩
theorem bR(p:iz)(B:List Nat)(S:World->Prop){K:Fr->World->Prop}(hm:P.follows .mixedOrders=true)(u:pU ops B p=true)(z:S w)(h:fA P ops.toList K X p S F w):mM P ops K X F w:=by rw[lZ];exact⟨hm,p,B,S,u,z,h⟩
theorem gv(S:World->Prop)(h:S w)(c:C S):ZD w C:=⟨S,h,c⟩
theorem En{K A:Fr->World->Prop}(h:mM P ops A X F w)(k:∀u z,vu (wr ops.toList) F u->A u z->K u z):mM P ops K X F w:=by
 rw[lZ] at h|-;obtain⟨hm,p,B,S,h1,M,J⟩:=h;exact⟨hm,p,B,S,h1,M,ju AX p S F F w (.refl _ _) k (λ_ _ h=>h) J⟩
theorem Kg[cF P t]{w0:World}(v:Value)(A:w.cell? a=some v)(z:ax w w0:=by exact aj.refl _ _)(k:K v):kg P (λu=>ax w0 u) t (.pointer (some a)) K:=pb v (λ_ hu=>(z.ae hu).ai A Yt) k
theorem bN(h:S w)(c:C S):nx S w C:=by rw[vG];exact⟨S,h,λ_ h=>h,c⟩
theorem aqh(z:World->Prop)(h:z w)(hs:∀u,z u->S u)(c:C z):nx S w C:=by rw[vG];exact⟨z,h,hs,c⟩
end
structure Ty (α:Type) where
 sz:Nat
 uF:(Nat->Prop)->World->aW->α->Prop
 an:∀{D w cs x},uF D w cs x->cs.length=sz
 di:∀{D w w' cs x},(∀b,b<w.heap.size->D b->w'.heap[b]? =w.heap[b]?)->uF D w cs x->uF D w' cs x
 ar:∀{D D' w cs x},(∀b,b<w.heap.size->D b->D' b)->uF D w cs x->uF D' w cs x
def jt(x:Int):Prop:=-9223372036854775808<=x/\x<=9223372036854775807
def cO:Ty Int where
 sz:=1
 uF _ _ cs x:=cs=[.int .i64 x]/\jt x
 an h:=by rw[h.1];rfl
 di _ h:=h
 ar _ h:=h
def pg{α β:Type}(a:Ty α)(b:Ty β):Ty (α×β) where
 sz:=a.sz+b.sz
 uF D w cs p:=∃c1 c2,cs=c1++c2/\a.uF D w c1 p.1/\b.uF D w c2 p.2
 an:=λ⟨c1,c2,h,h1,h2⟩=>by rw[h,asu,a.an h1,b.an h2]
 di hk:=λ⟨c1,c2,h,h1,h2⟩=>⟨c1,c2,h,a.di hk h1,b.di hk h2⟩
 ar hB:=λ⟨c1,c2,h,h1,h2⟩=>⟨c1,c2,h,a.ar hB h1,b.ar hB h2⟩
def ZL{α β:Type}(a:Ty α)(f:β->α):Ty β where
 sz:=a.sz
 uF D w cs x:=a.uF D w cs (f x)
 an h:=a.an h
 di hk h:=a.di hk h
 ar hB h:=a.ar hB h
theorem iS(h:w.cell? (ad b o)=some v):b<w.heap.size:=World.block_lt_of_cell? w (ad b o) h
theorem FP(h:b<w.heap.size->u.heap[b]? =w.heap[b]?)(J:bF w b o cs):bF u b o cs:=λj v z=>by
 have h1:=J j v z;rw[World.cell?_of_block (a:=ad b (o+j)) (h (iS h1))];exact h1
def bS{α:Type}(a:Ty α)(D:Nat->Prop)(w:World)(A:bZ)(n:Nat)(xs:List α):Prop:=n=xs.length/\n<=140737488355328/\∀k x,xs[k]? =some x->∃b o cs,A=some (ad b o)/\D b/\bF w b (o+k*a.sz) cs/\a.uF D w cs x
section
variable {α:Type} {a:Ty α} {D:Nat->Prop} {w:World} {A:Option Addr} {n:Nat} {xs:List α}
theorem bS.di(hk:∀b,b<w.heap.size->D b->u.heap[b]? =w.heap[b]?)(h:bS a D w A n xs):bS a D u A n xs:=⟨h.1,h.2.1,λk x J=>let⟨b,o,cs,h1,z,V,O⟩:=h.2.2 k x J;⟨b,o,cs,h1,z,FP (λM=>hk b M z) V,a.di hk O⟩⟩
theorem bS.an(h:bS a D w A n xs):xs.length=n:=h.1.symm
theorem bS.le(h:bS a D w A n xs):n<=140737488355328:=h.2.1
theorem bS.au(h:bS a D w A n xs){k:Nat}(hk:k<n):∃b o cs x,A=some (ad b o)/\xs[k]? =some x/\xs.drop k=x::xs.drop (k+1)/\D b/\bF w b (o+k*a.sz) cs/\a.uF D w cs x:=by
 obtain⟨V,_,h⟩:=h;have u:k<xs.length:=Y;have z:=asw u;obtain⟨b,o,cs,h1,O,M,J⟩:=h k _ z;exact⟨b,o,cs,xs[k],h1,z,atB u,O,M,J⟩
theorem bS.nil:bS a D w A 0 ([]:List α):=⟨rfl,Y,λk x u=>by simp at u⟩
end
theorem bS.ar{α:Type}{a:Ty α}{xs:List α}(O:0<a.sz)(u:∀b,b<w.heap.size->D b->D' b)(h:bS a D w A n xs):bS a D' w A n xs:=
 ⟨h.1,h.2.1,λk x M=>by
  obtain⟨b,o,cs,h1,V,J,z⟩:=h.2.2 k x M
  have X:=a.an z
  have W:cs[0]? =some (cs[0]'Y):=asw Y
  exact⟨b,o,cs,h1,u b (iS (J 0 _ W)) V,J,a.ar u z⟩⟩
def Xg{α:Type}(a:Ty α)(hsz:0<a.sz:=by decide):Ty (List α) where
 sz:=1
 uF D w cs xs:=∃A n c,cs=[.slice A n c]/\bS a D w A n xs/\n<=c
 an:=λ⟨_,_,_,h,_⟩=>by rw[h];rfl
 di hk:=λ⟨A,n,c,h,h1,h2⟩=>⟨A,n,c,h,h1.di hk,h2⟩
 ar hB:=λ⟨A,n,c,h,h1,h2⟩=>⟨A,n,c,h,h1.ar hsz hB,h2⟩
section
variable {α:Type} {a:Ty α} {D:Nat->Prop} {w:World}
theorem bS.ah{xs:List α}(h:bS a D w A n xs)(k:aj D' w u)(hd:∀b,b<w.heap.size->D b->D' b):bS a D u A n xs:=h.di λb z J=>k.aS b z (hd b z J)
theorem bS.ae{xs:List α}(h:bS a D w A n xs)(k:ax w u):bS a D u A n xs:=h.ah k λ_ _ _=>Yt
def dW(a:Ty α)(D:Nat->Prop)(w:World):List α->aW->Prop
 |[],cs=>cs=[]
 |x::xs,cs=>∃c r,cs=c++r/\a.uF D w c x/\dW a D w xs r
theorem dW.an:∀{xs:List α} {cs:aW},dW a D w xs cs->cs.length=xs.length*a.sz
 |[],_,h=>by rw[h];simp
 |x::xs,_,⟨c,r,h,h1,u⟩=>by rw[h,asu,a.an h1,u.an,as2,aun];omega
theorem dW.app:∀{xs ys:List α} {cs ds:aW},dW a D w xs cs->dW a D w ys ds->dW a D w (xs++ys) (cs++ds)
 |[],_,_,_,h,k=>by rw[h];exact k
 |x::xs,_,_,_,⟨c,r,h,h1,u⟩,k=>⟨c,_,by rw[h,as5],h1,u.app k⟩
theorem dW.one{x:α}{c:aW}(h:a.uF D w c x):dW a D w [x] c:=⟨c,[],by simp,h,rfl⟩
theorem dW.di{u:World}(hk:∀b,b<w.heap.size->D b->u.heap[b]? =w.heap[b]?):∀{xs:List α} {cs:aW},dW a D w xs cs->dW a D u xs cs
 |[],_,h=>h
 |_::_,_,⟨c,r,h,h1,z⟩=>⟨c,r,h,a.di hk h1,z.di hk⟩
theorem dW.ar{D':Nat->Prop}(hk:∀b,b<w.heap.size->D b->D' b):∀{xs:List α} {cs:aW},dW a D w xs cs->dW a D' w xs cs
 |[],_,h=>h
 |_::_,_,⟨c,r,h,h1,u⟩=>⟨c,r,h,a.ar hk h1,u.ar hk⟩
theorem dW.au:∀{xs:List α} {cs:aW},dW a D w xs cs->∀{k:Nat} {x:α},xs[k]? =some x->∃c,a.uF D w c x/\∀j v,c[j]? =some v->cs[k*a.sz+j]? =some v
 |[],_,_,_,_,u=>by simp at u
 |y::xs,_,⟨c,r,h,h1,z⟩,0,x,u=>Yg
 |y::xs,_,⟨c,r,h,h1,z⟩,k+1,x,u=>by
  obtain⟨c',V,O⟩:=z.au (k:=k) (by simpa using u)
  refine⟨c',V,λj v J=>?_⟩
  subst h
  have M:=a.an h1
  rw[asY Yg,M]
  have:=O j v J
  rwa [show(k+1)*a.sz+j-a.sz=k*a.sz+j from by rw[aun];omega]
theorem fX:∀{xs:aX},(∀x∈xs,jt x)->dW cO D w xs (xs.map (.int .i64))
 |[],_=>rfl
 |x::xs,h=>⟨[.int .i64 x],xs.map (.int .i64),rfl,⟨rfl,h x ass⟩,fX λy u=>h y (ast _ u)⟩
theorem bS.jw{xs:List α}(J:n=xs.length)(hle:n<=140737488355328)(V:D b)(O:bF w b o cs)(M:dW a D w xs cs):bS a D w (some (ad b o)) n xs:=
 ⟨J,hle,λk x u=>by
  obtain⟨c,h1,W⟩:=M.au u
  exact⟨b,o,c,rfl,V,λj v z=>by have:=O _ _ (W j v z);rwa [<-avH] at this,h1⟩⟩
theorem bS.cells{b o n:Nat}{xs:List α}(h:bS a D w (some (ad b o)) n xs):∃cs,dW a D w xs cs/\bF w b o cs:=by
 obtain⟨hn,hle,h⟩:=h;clear hn hle n;induction xs generalizing o with
 |nil=>exact⟨[],rfl,λj v u=>by simp at u⟩
 |cons x xs X=>
  obtain⟨b',o',c,e,_,hc,V⟩:=h 0 x rfl;simp only[atW,avI] at e;obtain⟨rfl,rfl,_⟩:=e;obtain⟨r,hf,J⟩:=X (o:=o+a.sz) (λk y Z=>by obtain⟨b2,o2,c2,W,O,M,z⟩:=h (k+1) y Z;simp only[atW,avI] at W;obtain⟨rfl,rfl,_⟩:=W;exact⟨b,o+a.sz,c2,rfl,O,by rwa [show o+(k+1)*a.sz=o+a.sz+k*a.sz from by rw[aun];omega] at M,z⟩)
  refine⟨c++r,⟨c,r,rfl,V,hf⟩,λj v u=>?_⟩;have hl:=a.an V;by_cases hj:j<c.length
  .rw[asR hj] at u;have:=hc j v u;simpa using this
  .rw[asY Y] at u;have:=J _ v u;rwa [show o+a.sz+(j-c.length)=o+j from Y] at this
end
theorem ph{α:Type}{xs:List α}{k:Nat}(h:xs.length<=k):xs.drop k=[]:=as8 h
def cz:Value->aW
 | .agg cs=>cs.toList
 |v=>[v]
theorem lF(v:Value):v.cells=(cz v).toArray:=by cases v<;>simp[Value.cells,cz]
def P3(P:Program)(t:TypeId):Bool:=FO P t&&(match P.info? t with|some i=>i.size == 1|none=>false)
class iL (P:Program) (t:TypeId):Prop where h:P3 P t=true
section
variable {P:Program} {X:XK}
theorem ot{t:TypeId}{zv:Value}(h:zeroOf P t=some zv):∃i,P.info? t=some i/\i.zero=some zv:=by
 unfold zeroOf at h;cases hi:P.info? t with
 |none=>rw[hi] at h;cases h
 |some i=>rw[hi] at h;exact⟨i,rfl,h⟩
theorem iT(h:zeroOf P t=some zv)(w:World):(zeroValue t).run P w=.ok zv w:=by
 obtain⟨i,hi,u⟩:=ot h;simp[zeroValue,typeInfo,hi,u]
def qU(w:World)(e:TypeId)(cs:aW)(g:Nat)(w':World):Prop:=g=w.heap.size/\w'=w.alloc (.cells cs.toArray e)
theorem qU.aS(h:qU w e cs g u):aP u g e cs:=by obtain⟨rfl,rfl⟩:=h;exact aP.new w e cs
theorem qU.ae(h:qU w e cs g u):ax w u:=by obtain⟨rfl,rfl⟩:=h;exact aj.alloc _ w _
theorem qU.size(h:qU w e cs g u):u.heap.size=w.heap.size+1:=by obtain⟨rfl,rfl⟩:=h;simp
theorem qU.au(h:qU w e cs g u):g=w.heap.size:=h.1
theorem alloc[h:bQ P e zv]{K:VK}(z:∀g u,qU w e (cz zv) g u->K (.pointer (some (ad g 0))) u):J2 P e K w:=by
 rw[xB];intro w0 hw;subst hw;rw[gG];simp only[Instr.alloc,asI,iT h.h,asJ,newVar,newRow,run_newObj,lF];exact z _ _ ⟨rfl,rfl⟩
theorem box{K:VK}(z:∀g u,qU w e (cz v) g u->K (.pointer (some (ad g 0))) u):ZC P e v K w:=by
 rw[FH];intro w0 hw;subst hw;rw[gG];simp only[Instr.box,asI,asJ,newVar,newRow,run_newObj,lF];exact z _ _ ⟨rfl,rfl⟩
theorem qV{K:VK}(z:∀g u,g=w.heap.size->u=w.alloc (.map #[] 0)->K (.map (some g)) u):PT P t none K w:=by
 rw[AM];intro w0 hw;subst hw;rw[gG,run_makeMap];exact z _ _ rfl rfl
theorem Kh(xs ys c old:aW)(z:old.length=c.length):((c.zipIdx).foldl (λ(cs:Array Value) (p:Value×Nat)=>cs.setIfInBounds (xs.length+p.2) p.1) (xs++old++ys).toArray)=(xs++c++ys).toArray:=by
 have key:∀(c old:aW) (pre:aW) (k:Nat),old.length=c.length->pre.length=xs.length+k->((c.zipIdx k).foldl (λ(cs:Array Value) (p:Value×Nat)=>cs.setIfInBounds (xs.length+p.2) p.1) (pre++old++ys).toArray)=(pre++c++ys).toArray:=by
  intro c;induction c with
  |nil=>intro old pre k h1 A;have:old=[]:=asL (by simpa using h1);subst this;simp
  |cons v c u=>
   intro old pre k h1 A;cases old with
   |nil=>simp at h1
   |cons o old=>
    simp only[List.zipIdx_cons,aul];have e:((pre++o::old++ys).toArray.setIfInBounds (xs.length+k) v)=((pre++[v])++old++ys).toArray:=Yg;rw[e,u old (pre++[v]) (k+1) (by simpa using h1) (by simp;omega)];simp
 exact key c old xs 0 z (by simp)
theorem HE{sz:Nat}:∀(vs:aW) (k:Nat) (pre old:aW),(∀v∈vs,(cz v).length=sz)->pre.length=k*sz->old.length=vs.length*sz->Instr.fill (λi=>some (i*sz,sz)) (pre++old).toArray ((vs.zipIdx k).map λp=>(p.2,p.1))=some (pre++vs.flatMap cz).toArray
 |[],k,pre,old,_,_,z=>by have:old=[]:=asL (by simpa using z);subst this;simp[Instr.fill]
 |v::vs,k,pre,old,h,M,z=>by
  have A:=h v ass
  have J:∀u∈vs,(cz u).length=sz:=λu hu=>h u (ast _ hu)
  have hlen:old.length=sz+vs.length*sz:=by rw[z,as2,aun];omega
  simp only[List.zipIdx_cons,asQ,Instr.fill,lF v,auk,A]
  rw[aso (by simp;omega)]
  have V:(pre++old)=pre++old.take sz++old.drop sz:=by rw[as5,atk]
  have W:(List.foldl (λ(cs:Array Value) (p:Value×Nat)=>cs.setIfInBounds (k*sz+p.2) p.1) (pre++old).toArray (cz v).zipIdx)=(pre++cz v++old.drop sz).toArray:=by
   rw[V,<-M]
   exact Kh pre (old.drop sz) (cz v) (old.take sz) Yg
  have O:((cz v).toArray.zipIdx.foldl (λ(cs:Array Value) (x:Value×Nat)=>match x with|(c,j)=>cs.setIfInBounds (k*sz+j) c) (pre++old).toArray)=(pre++cz v++old.drop sz).toArray:=Yg
  rw[O,HE vs (k+1) (pre++cz v) (old.drop sz) J Yg Yg]
  simp
theorem uG(h:zO P t=some (e,sz))(M:zeroOf P e=some zv)(J:(cz zv).length=sz)(vs:aW)(O:∀v∈vs,(cz v).length=sz)(A:vs.length*sz<=16777216)(w:World):(Instr.buildSlice t vs.length ((vs.zipIdx 0).map λp=>(p.2,p.1)).toArray).run P w=.ok (.slice (some ⟨w.heap.size,0,none⟩) vs.length vs.length) (w.alloc (.cells (vs.flatMap cz).toArray e)):=by
 obtain⟨hu,i,hi,hs⟩:=dF h;subst hs;have u:∀z0:aW,z0.length=vs.length*i.size->Instr.fill (λj=>some (j*i.size,i.size)) z0.toArray ((vs.zipIdx 0).map λp=>(p.2,p.1))=some (vs.flatMap cz).toArray:=λz0 V=>by have:=HE (sz:=i.size) vs 0 [] z0 O (by simp) V;simpa using this
 have W:¬(vs.length*i.size>2 ^ 24):=Y;unfold Instr.buildSlice;have er:Array.range 0=#[]:=rfl;simp only[asI,asX hu,asJ,run_sizeOf hi,W,aws];by_cases z:vs.length*i.size=0
 .have:=u [] (by simpa using z.symm);simp[z,er,this,newRow]
 .have:=u ((Array.range (vs.length*i.size)).map λj=>zv.cells[j%zv.cells.size]!).toList (by simp);simp only[avT] at this;simp only[z,aws,asI,iT M,atr,asJ,this];simp[newRow]
theorem aqi[h:cu P t e sz][M:bQ P e zv](vs:aW){ps:Array (Nat×Value)}{K:VK}(V:ps=((vs.zipIdx 0).map λp=>(p.2,p.1)).toArray)(W:n=vs.length)(O:∀v∈vs,(cz v).length=sz)(z:(cz zv).length=sz)(u:vs.length*sz<=16777216)(J:∀g A,qU w e (vs.flatMap cz) g A->K (.slice (some (ad g 0)) n n) A):L3 P t n ps K w:=by
 rw[AL];intro w0 hw;subst hw;subst V;subst W;rw[gG,uG h.h M.h z vs O u];exact J _ _ ⟨rfl,rfl⟩
theorem Ki{t:TypeId}(h:P3 P t=true):cF P t/\∃i,P.info? t=some i/\i.size=1:=by
 unfold P3 at h;obtain⟨h1,u⟩:=ft h;refine⟨⟨h1⟩,?_⟩;cases hi:P.info? t with
 |none=>rw[hi] at u;cases u
 |some i=>rw[hi] at u;exact⟨i,rfl,by simpa using u⟩
theorem st[h:iL P t]{i:Nat}{K:VK}(W:aP w g e cs)(hi:i<cs.length)(Y:v.oneCell'=true)(Z:∀M,aP M g e (cs.set i v)->aj (λb=>b≠g) w M->M.heap.size=w.heap.size->K undef M):xA P t (.pointer (some (ad g i))) v K w:=by
 rw[sN];intro w0 hw;subst hw;obtain⟨hc,inf,J,hs⟩:=Ki h.h;have u:w0.cell? (ad g i)=some cs[i]:=W.ai (asw hi);have O:w0.frozen? (ad g i)=false:=W.frozen i;have V:v.cells=#[v]:=by cases v<;>first|rfl|cases Y
 have A:(uS (Instr.storeAt t (.pointer (some (ad g i))) v)).run P w0=.ok .skip (w0.setCell (ad g i) v):=by
  have h1:(store (ad g i) v .plain).run P w0=.ok () (w0.setCell (ad g i) v):=by rw[run_store P w0 (ad g i) v .plain Y,u];simp[O]
  have h2:(ad g i).add 0=ad g i:=rfl;simp only[uS,Instr.storeAt,Instr.sureAddr,storeVar,asI,atr,asJ,run_sizeOf J,hs,V];simp[storeCells,h2,h1]
 rw[A];exact Z (z (w0.setCell (ad g i) v)) (aP.set W i v) (aj.setCell (z w0) (ad g i) v) (by simp[World.setCell])
theorem mE{g:Nat}{e:TypeId}:∀(vs:aW) (o i:Nat) (cs:aW) (w:World),aP w g e cs->o+i+vs.length<=cs.length->(∀v∈vs,v.oneCell'=true)->∃A,(storeCells (ad g o) vs i).run P w=.ok () A/\aP A g e (cs.take (o+i)++vs++cs.drop (o+i+vs.length))/\aj (λb=>b≠g) w A/\A.heap.size=w.heap.size
 |[],o,i,cs,w,M,V,_=>⟨w,rfl,by simpa using M,.refl _ _,rfl⟩
 |v::vs,o,i,cs,w,M,V,Z=>by
  have hi:o+i<cs.length:=by simp at V;omega
  have O:=Z v ass
  have z:w.cell? (ad g (o+i))=some cs[o+i]:=M.ai (asw hi)
  have W:w.frozen? (ad g (o+i))=false:=M.frozen _
  have h1:(store ((ad g o).add i) v .plain).run P w=.ok () (w.setCell (ad g (o+i)) v):=by rw[ru,run_store P w _ v .plain O,z];simp[W]
  obtain⟨A,hr,J,hk,hz⟩:=mE vs o (i+1) (cs.set (o+i) v) (w.setCell (ad g (o+i)) v) (M.set _ _) (by simp at V|-;omega) λu hu=>Z u (ast _ hu)
  refine⟨A,?_,?_,(aj.setCell w (ad g (o+i)) v).trans hk,by rw[hz];simp[World.setCell]⟩
  .simp only[storeCells,asI,h1,asJ];exact hr
  .have e1:(cs.set (o+i) v).take (o+(i+1))=cs.take (o+i)++[v]:=by
    rw[<-avH,List.take_succ_eq_append_getElem (by simpa using hi),av1 (asN _)]
    simp
   have e2:(cs.set (o+i) v).drop (o+(i+1)+vs.length)=cs.drop (o+i+(v::vs).length):=by
    rw[List.drop_set_of_lt Y]
    congr 1;simp;omega
   rw[e1,e2] at J
   simpa using J
theorem jR[h:dJ P t n]{i:Nat}{vs:aW}{K:VK}(hb:aP w g e cs)(Z:vs.length=n)(hi:i+vs.length<=cs.length)(W:∀v∈vs,v.oneCell'=true)(O:∀u,aP u g e (cs.take i++vs++cs.drop (i+vs.length))->aj (λb=>b≠g) w u->u.heap.size=w.heap.size->K undef u):xA P t (.pointer (some (ad g i))) (.agg vs.toArray) K w:=by
 rw[sN];intro w0 hw;subst hw;obtain⟨_,inf,J,hs⟩:=gu h.h;obtain⟨u,Y,M,hk,V⟩:=mE (P:=P) vs i 0 cs w0 hb (by simpa using hi) W;have A:(uS (Instr.storeAt t (.pointer (some (ad g i))) (.agg vs.toArray))).run P w0=.ok .skip u:=by simp only[uS,Instr.storeAt,Instr.sureAddr,storeVar,asI,atr,asJ,run_sizeOf J,hs,Value.cells];simp[Z,Y]
 rw[A];exact O (z u) M ⟨hk.os,hk.tape,hk.output,hk.size,hk.aS⟩ V
abbrev jH(w:World)(v:Value)(e:TypeId)(sz n:Nat)(xs:aW):Prop:=w.ownsRow 0 e sz v n xs
theorem jH.nil(w:World)(e:TypeId)(sz:Nat):jH w (.slice none 0 0) e sz 0 []:=⟨by simp,.inl ⟨rfl,rfl⟩⟩
theorem jH.aS(h:jH w (.slice (some (ad g 0)) n cap) e sz n xs):∃rest,aP w g e (xs++rest)/\(xs++rest).length=cap*sz/\n<=cap:=by
 obtain⟨W,h⟩:=h;rcases h with⟨h,_⟩|⟨Z,A,cur,J,_,O,h1,Y,V,z⟩
 .cases h
 .injection J with u _ M;injection u with u;injection u with u;subst u;subst M;refine⟨cur.toList.drop (n*sz),?_,?_,h1⟩
  .unfold aP;rw[<-z,atk,avT];exact O
  .rw[<-z,atk];simpa using V
theorem jH.iH{rest:aW}(M:aP w g e (xs++rest))(z:xs.length=n*sz)(J:(xs++rest).length=cap*sz)(A:n<=cap)(u:cap<=maxLen):jH w (.slice (some (ad g 0)) n cap) e sz n xs:=⟨z,.inr ⟨g,cap,(xs++rest).toArray,rfl,atc _,M,A,u,by simpa using J,by simp[<-z]⟩⟩
theorem jH.form(h:jH w v e sz n xs):(v=.slice none 0 0/\n=0)\/∃g cap,v=.slice (some (ad g 0)) n cap/\n<=cap:=by
 rcases h.2 with h|⟨g,cap,_,h1,_,_,u,_⟩
 .exact .inl h
 .exact Yg
theorem jH.ah(h:jH w v e sz n xs)(k:aj D w u)(J:∀g,v.ownBlock=some g->D g):jH u v e sz n xs:=by
 obtain⟨A,h⟩:=h;refine⟨A,?_⟩;rcases h with h|⟨g,cap,cur,h1,O,z,M⟩
 .exact .inl h
 .subst h1;exact .inr ⟨g,cap,cur,rfl,O,(k.aS g (asV.1 z).1 (J g rfl)).trans z,M⟩
theorem jH.ae(h:jH w v e sz n xs)(k:ax w u):jH u v e sz n xs:=h.ah k λ_ _=>Yt
theorem jH.lt(h:jH w v e sz n xs)(u:v.ownBlock=some g):g<w.heap.size:=by
 rcases h.2 with⟨rfl,_⟩|⟨A,cap,cur,rfl,_,z,_⟩
 .cases u
 .injection u with u;subst u;exact(asV.1 z).1
theorem jH.an(h:jH w v e sz n xs):xs.length=n*sz:=h.1
def Src(w:World)(A:bZ)(m sz:Nat)(news:aW):Prop:=news.length=m*sz/\(0<m->∃b o,A=some (ad b o)/\bF w b o news)
structure ajV (w:World) (v:Value) (w':World) (v':Value) (e:TypeId) (sz n:Nat) (xs:aW):Prop where
 own:jH w' v' e sz n xs
 ah:aj (λb=>v.ownBlock≠some b) w w'
 au:v'.ownBlock=v.ownBlock\/v'.ownBlock=some w.heap.size
theorem run_append_nil{i:TypeInfo}{ty:TypeId}(hu:P.underlying t=some (.slice e))(hi:P.info? e=some i)(h:jH w v e sz n xs)(A:bZ)(c:Nat):∃v',(Builtin.append_ #[t,t] ty #[v,.slice A 0 c]).run P w=.ok v w/\v'=v:=by
 refine⟨v,?_,rfl⟩;rcases h.2 with⟨rfl,rfl⟩|⟨g,cap,cur,rfl,_,_,u,_⟩
 .cases A<;>simp[Builtin.append_,asX hu,run_sizeOf hi,Builtin.lenOf,Builtin.firstCells,loadCells,loadCellsFrom]
 .cases A<;>simp[Builtin.append_,asX hu,run_sizeOf hi,Builtin.lenOf,Builtin.firstCells,u,storeCells,loadCells,loadCellsFrom]
theorem app{O:Nat}[h:cu P t e sz][hz:bQ P e zv][af:fw P e O]{ty:TypeId}{a6:Array Bool}{m c:Nat}{news:aW}{K:VK}(V:jH w v e sz n xs)(hs:Src w A m sz news)(h1:∀u∈news,u.oneCell'=true)(a8:(cz zv).length=sz)(Z:0<sz)(hb:(n+m)*O<=140737488355328)(aq:n+m<=9223372036854775807)(kk:∀v' M,ajV w v M v' e sz (n+m) (xs++news)->K v' M):DE P .append #[t,t] ty a6 #[v,.slice A m c] K X w:=by
 rw[nZ];intro w0 hw;subst hw;obtain⟨hu,i,hi,aa⟩:=dF h.h;obtain⟨i',a1,a7⟩:=ot hz.h;rw[hi] at a1;cases a1;have ak:i.bytes=O:=by have:=af.h;unfold bytesOf at this;rw[hi] at this;simpa using this
 have W:∃v' M,(Builtin.append_ #[t,t] ty #[v,.slice A m c]).run P w0=.ok v' M/\ajV (z w0) v (z M) v' e sz (n+m) (xs++news):=by
  have J:w0.ownsRow 0 e sz v n xs:=V;rcases atD m with hm|hm
  .subst hm;obtain⟨v',Y,e'⟩:=run_append_nil (ty:=ty) hu hi J A c;have:news=[]:=asL (by simpa using hs.1);subst this;exact⟨v,w0,Y,by simpa using V,.refl _ _,.inl rfl⟩
  .obtain⟨b,o,rfl,hc⟩:=hs.2 hm;obtain⟨v',M,Y,ho,hg,_,ao⟩:=run_append_own_at (P:=P) (w:=w0) 0 t ty e i zv sz O hu hi a7 aa ak (by rw[lF];simpa using a8) Z v n xs J (ad b o) m c news hs.1 (λj u ab=>by rw[ru];exact hc j u ab) h1 (by unfold maxLen;omega) hb (atc _);exact⟨v',M,Y,ho,⟨hg.os,hg.tape,hg.output,hg.size,λk hk hD=>hg.block k hk λe=>hD e.symm⟩,ao⟩
 obtain⟨v',M,Y,ha⟩:=W;rw[show builtin .append #[t,t] ty a6 #[v,.slice A m c]=vS (Builtin.append_ #[t,t] ty #[v,.slice A m c]) from rfl,gG,Y];exact kk v' (z M) ha
theorem i7{t e:TypeId}{sz M:Nat}{zv:Value}[h:cu P t e sz][hz:bQ P e zv][a6:fw P e M]{k1 k2:IntKind}(n:Nat){i j:Int}{w:World}{K:VK}(hi:i=n)(hj:j=n)(hb:M*n<=140737488355328)(hn:n<=9223372036854775807)(u:(cz zv).length=sz)(O:0<sz)(kk:∀g w',qU w e ((List.replicate n (cz zv)).flatten) g w'->K (.slice (some (ad g 0)) n n) w'):PU P t (.int k1 i) (.int k2 j) K w:=by
 rw[AN];intro w0 hw;subst hw;subst hi;subst hj;obtain⟨hu,inf,z,Z⟩:=dF h.h;obtain⟨i',V,W⟩:=ot hz.h;rw[z] at V;cases V;have a7:inf.bytes=M:=by have:=a6.h;unfold bytesOf at this;rw[z] at this;simpa using this
 have J:(inf.bytes:Int)*(n:Int)<=281474976710656:=by rw[a7];have:((M*n:Nat):Int)<=140737488355328:=Y;rw[at4] at this;omega
 have hr:=run_make (P:=P) w0 t e inf zv hu z W k1 k2 n n Y (asO _) J Y;rw[gG,hr];have A:madeCells zv.cells ((n:Int).toNat*inf.size)=((List.replicate n (cz zv)).flatten).toArray:=by
  rw[Z,ave,lF];apply Array.ext
  .simp[madeCells,u]
  .intro k h1 h2;have hk:k<n*sz:=by simpa[madeCells] using h1
   simp only[madeCells,Array.getElem_map,Array.getElem_range,List.getElem_toArray,auk,u];have key:∀(n k:Nat) (l:aW),l.length=sz->k<n*sz->(List.replicate n l).flatten[k]? =l[k%sz]? :=by
    intro n;induction n with
    |zero=>intro k l _ hk;omega
    |succ n ih=>
     intro k l hl hk;rw[au6,List.flatten_cons];by_cases a1:k<sz
     .rw[asR Y,Nat.mod_eq_of_lt a1]
     .rw[asY Y,hl,ih (k-sz) l hl (by have:(n+1)*sz=n*sz+sz:=avx n sz;omega),show k%sz=(k-sz)%sz from Nat.mod_eq_sub_mod Y]
   have hm:k%sz<(cz zv).length:=by rw[u];exact Nat.mod_lt _ O
   have e1:=key n k (cz zv) u hk;rw[asw (by simp[u];exact hk),asw hm] at e1;simp only[atW] at e1;rw[e1];simp[hm]
 rw[A];exact kk _ _ ⟨rfl,rfl⟩
section
variable {α:Type} {a:Ty α} {D:Nat->Prop} {w:World}
theorem jH.src(h:jH w (.slice A n cap) e sz n xs):Src w A n sz xs:=by
 refine⟨h.1,λO=>?_⟩;rcases h.form with⟨_,V⟩|⟨g,z,u,_⟩
 .omega
 .injection u with u _ J;subst u;subst J;obtain⟨rest,M,_,_⟩:=h.aS;exact⟨g,0,rfl,λj _ u=>M.ai (by rw[as9,asR (asr.1 u).1];exact u)⟩
theorem jH.rd{xs:List α}(h:jH w (.slice A n cap) e a.sz n cs)(Y:dW a D w xs cs)(M:n=xs.length)(hle:n<=140737488355328)(Z:∀g,A=some (ad g 0)->D g):bS a D w A n xs:=by
 rcases h.form with⟨z,u⟩|⟨g,W,z,_⟩
 .subst u;have:=asL M.symm;subst this;exact .nil
 .injection z with z _ O;subst z;subst O;obtain⟨b,o,V,O⟩|J:(∃b o,some (ad g 0)=some (ad b o)/\bF w b o cs)\/n=0:=by
   rcases atD n with u|u
   .exact .inr u
   .exact .inl (h.src.2 u)
  .simp only[atW,avI] at V;obtain⟨rfl,rfl,_⟩:=V;exact .jw M hle (Z _ rfl) O Y
  .subst J;have:=asL M.symm;subst this;exact .nil
end
end
section
open Go.Sort
def cx(a b:Int):Int:=if a<b then -1 else if b<a then 1 else 0
theorem eI(x y:Int)(W:World):Calls prog 93 #[.int .i64 x,.int .i64 y] W λe w'=>e=.returned (.int .i64 (cx x y))/\w'=W:=by
 go_enter func93,Tryz.ntmps93
 go_wp2
 .go_ret
  refine⟨congrArg Ending.returned ?_,rfl⟩
  have h:x<y:=by assumption
  show Value.int .i64 (-1)=.int .i64 (cx x y)
  unfold cx;rw[asp h]
 .go_ret
  refine⟨congrArg Ending.returned ?_,rfl⟩
  have h:y<x:=by assumption
  show Value.int .i64 1=.int .i64 (cx x y)
  unfold cx;rw[aso Y,asp h]
 .go_ret
  refine⟨congrArg Ending.returned ?_,rfl⟩
  have h:y<=x:=by assumption
  have h':x<=y:=by assumption
  show Value.int .i64 0=.int .i64 (cx x y)
  unfold cx;rw[aso Y,aso Y]
abbrev Ti:=Int×Int×Int×Int
def NN(x y:Ti):Int:=if cx x.1 y.1≠0 then cx x.1 y.1 else if cx x.2.1 y.2.1≠0 then cx x.2.1 y.2.1 else if cx x.2.2.1 y.2.2.1≠0 then cx x.2.2.1 y.2.2.1 else cx x.2.2.2 y.2.2.2
structure Cm where
 right:Int
 aO:Int
 aH:Int
 aC:Int
 cC:Int
deriving DecidableEq,Inhabited
def Cm.ti(c:Cm):Ti:=(c.aH,c.cC,c.right,c.aO)
abbrev bM(c:Cm):aW:=[.int .i64 c.right,.int .i64 c.aO,.int .i64 c.aH,.int .i64 c.aC,.int .i64 c.cC]
end
end Go.Proofs.YtakcjkbnfegidaaGreat
namespace Go.Proofs
open Go.Shelf Go.RowKit Go.Lib Go.Sort
shelf_lay_g SlLaysF0.n6 Slsf 6 at Tryz 79 as Tryz.jsort
#print axioms Tryz.jsort
end Go.Proofs
namespace Go.Proofs.YtakcjkbnfegidaaGreat
open Go Go.RowKit Tryz
def mapOf(P:Program)(t:TypeId):Option (TypeId×TypeId):=match P.underlying t with|some (.map k e)=>some (k,e)|_=>none
class jx (P:Program) (t:TypeId) (k e:outParam TypeId):Prop where h:mapOf P t=some (k,e)
def P4(P:Program)(t:TypeId):Option (Nat×TypeId×Nat):=match P.underlying t with|some (.array n e)=>(P.info? e).map λi=>(n,e,i.size)|_=>none
class P5 (P:Program) (t:TypeId) (n:outParam Nat) (e:outParam TypeId) (sz:outParam Nat):Prop where h:P4 P t=some (n,e,sz)
def Xh(P:Program)(t:TypeId):Bool:=match P.underlying t with|some .bool=>true|_=>false
class FQ (P:Program) (t:TypeId):Prop where h:Xh P t=true
end Go.Proofs.YtakcjkbnfegidaaGreat
namespace Go.Proofs.YtakcjkbnfegidaaGreat
open Go Tryz
theorem mx:Tryz.prog.follows .mixedOrders=true:=Z
abbrev aA(f:FuncId)(a:Array Value)(w:World)(x:Value):=aK prog f a w λ v u=>v=x/\ax w u
theorem asi:((List.range 406).all λk=>Tryz.prog.funcs[k+2]?.any λn=>!(n.name== "runtime.NumGoroutine")&&n.body.isSome)=true:=by kernel_rfl
theorem asj(f:Nat)(h:Nat.ble 2 f=true)(g:Nat.ble f 407=true):Enters prog f:=by
 obtain⟨k,rfl⟩:=Nat.exists_eq_add_of_le' (asB h);have g:=asB g;have k:=asH.1 asi k (as0.2 (by omega));obtain⟨n,e,k⟩:=Option.any_eq_true _ _|>.1 k;simp only[asv,atj]at k;exact Enters.of e k.1 k.2
class asl(a b:Bool):Prop where
 h:a=b
instance{a}:asl a a:=⟨rfl⟩
instance{f:Nat}[h:asl (Nat.ble 2 f) true][g:asl (Nat.ble f 407) true]:Enters prog f:=asj f h.h g.h
instance:cF prog 3:=⟨Z⟩
instance:iL prog 3:=⟨Z⟩
instance:qO prog 3 .i64:=⟨Z⟩
instance:bQ prog 3 (.int .i64 0):=⟨Z⟩
instance:fw prog 3 8:=⟨Z⟩
instance:cF prog 4:=⟨Z⟩
instance:iL prog 4:=⟨Z⟩
instance:FQ prog 4:=⟨Z⟩
instance:bQ prog 4 (.bool false):=⟨Z⟩
instance:cF prog 9:=⟨Z⟩
instance:dJ prog 23 2:=⟨Z⟩
instance:bB prog 23 0 3 0:=⟨Z⟩
instance:bB prog 23 1 3 1:=⟨Z⟩
instance:cF prog 24:=⟨Z⟩
instance:cu prog 24 99 12:=⟨Z⟩
instance:cF prog 25:=⟨Z⟩
instance:cu prog 25 102 4:=⟨Z⟩
instance:cF prog 26:=⟨Z⟩
instance:cu prog 26 365 2:=⟨Z⟩
instance:cF prog 27:=⟨Z⟩
instance:iL prog 27:=⟨Z⟩
instance:cu prog 27 171 10:=⟨Z⟩
instance:cF prog 28:=⟨Z⟩
instance:cu prog 28 126 4:=⟨Z⟩
instance:cF prog 29:=⟨Z⟩
instance:cu prog 29 548 4:=⟨Z⟩
instance:dJ prog 31 10:=⟨Z⟩
instance:bB prog 31 1 3 1:=⟨Z⟩
instance:bB prog 31 2 23 2:=⟨Z⟩
instance:bB prog 31 3 24 4:=⟨Z⟩
instance:bB prog 31 4 25 5:=⟨Z⟩
instance:bB prog 31 5 26 6:=⟨Z⟩
instance:bB prog 31 6 27 7:=⟨Z⟩
instance:bB prog 31 7 28 8:=⟨Z⟩
instance:bB prog 31 8 29 9:=⟨Z⟩
instance:bQ prog 31 (.agg #[.string ⟨#[]⟩,.int .i64 0,.int .i64 0,.int .i64 0,.slice none 0 0,.slice none 0 0,.slice none 0 0,.slice none 0 0,.slice none 0 0,.slice none 0 0]):=⟨Z⟩
instance:cF prog 32:=⟨Z⟩
instance:cu prog 32 87 9:=⟨Z⟩
instance:cF prog 33:=⟨Z⟩
instance:cu prog 33 297 4:=⟨Z⟩
instance:cF prog 34:=⟨Z⟩
instance:cu prog 34 62 9:=⟨Z⟩
instance:cF prog 35:=⟨Z⟩
instance:cu prog 35 90 3:=⟨Z⟩
instance:cF prog 36:=⟨Z⟩
instance:cu prog 36 173 4:=⟨Z⟩
instance:cF prog 37:=⟨Z⟩
instance:iL prog 37:=⟨Z⟩
instance:cu prog 37 3 1:=⟨Z⟩
instance:bQ prog 37 (.slice none 0 0):=⟨Z⟩
instance:fw prog 37 24:=⟨Z⟩
instance:cF prog 38:=⟨Z⟩
instance:cu prog 38 37 1:=⟨Z⟩
instance:bQ prog 38 (.slice none 0 0):=⟨Z⟩
instance:bB prog 40 0 37 0:=⟨Z⟩
instance:bB prog 40 1 38 1:=⟨Z⟩
instance:bB prog 40 2 38 2:=⟨Z⟩
instance:dJ prog 42 19:=⟨Z⟩
instance:bB prog 42 0 31 0:=⟨Z⟩
instance:bB prog 42 1 3 10:=⟨Z⟩
instance:bB prog 42 2 32 11:=⟨Z⟩
instance:bB prog 42 3 33 12:=⟨Z⟩
instance:bB prog 42 4 34 13:=⟨Z⟩
instance:bB prog 42 5 35 14:=⟨Z⟩
instance:bB prog 42 6 36 15:=⟨Z⟩
instance:bB prog 42 7 40 16:=⟨Z⟩
instance:bQ prog 42 (.agg #[.string ⟨#[]⟩,.int .i64 0,.int .i64 0,.int .i64 0,.slice none 0 0,.slice none 0 0,.slice none 0 0,.slice none 0 0,.slice none 0 0,.slice none 0 0,.int .i64 0,.slice none 0 0,.slice none 0 0,.slice none 0 0,.slice none 0 0,.slice none 0 0,.slice none 0 0,.slice none 0 0,.slice none 0 0]):=⟨Z⟩
instance:cF prog 45:=⟨Z⟩
instance:iL prog 45:=⟨Z⟩
instance:cu prog 45 60 8:=⟨Z⟩
instance:cF prog 46:=⟨Z⟩
instance:iL prog 46:=⟨Z⟩
instance:cu prog 46 114 4:=⟨Z⟩
instance:bQ prog 46 (.slice none 0 0):=⟨Z⟩
instance:dJ prog 48 7:=⟨Z⟩
instance:bB prog 48 0 37 0:=⟨Z⟩
instance:bB prog 48 1 37 1:=⟨Z⟩
instance:bB prog 48 2 38 2:=⟨Z⟩
instance:bB prog 48 3 38 3:=⟨Z⟩
instance:bB prog 48 4 38 4:=⟨Z⟩
instance:bB prog 48 5 38 5:=⟨Z⟩
instance:bB prog 48 6 38 6:=⟨Z⟩
instance:bQ prog 48 (.agg #[.slice none 0 0,.slice none 0 0,.slice none 0 0,.slice none 0 0,.slice none 0 0,.slice none 0 0,.slice none 0 0]):=⟨Z⟩
instance:dJ prog 50 14:=⟨Z⟩
instance:bB prog 50 0 45 0:=⟨Z⟩
instance:bB prog 50 1 46 1:=⟨Z⟩
instance:bB prog 50 2 48 2:=⟨Z⟩
instance:bB prog 50 3 37 9:=⟨Z⟩
instance:bB prog 50 4 37 10:=⟨Z⟩
instance:bB prog 50 5 37 11:=⟨Z⟩
instance:bB prog 50 6 37 12:=⟨Z⟩
instance:bB prog 50 7 3 13:=⟨Z⟩
instance:bQ prog 50 (.agg #[.slice none 0 0,.slice none 0 0,.slice none 0 0,.slice none 0 0,.slice none 0 0,.slice none 0 0,.slice none 0 0,.slice none 0 0,.slice none 0 0,.slice none 0 0,.slice none 0 0,.slice none 0 0,.slice none 0 0,.int .i64 0]):=⟨Z⟩
instance:cF prog 51:=⟨Z⟩
instance:iL prog 51:=⟨Z⟩
instance:bQ prog 51 (.int .i64 0):=⟨Z⟩
instance:dJ prog 57 2:=⟨Z⟩
instance:bB prog 57 0 3 0:=⟨Z⟩
instance:bB prog 57 1 3 1:=⟨Z⟩
instance:bQ prog 57 (.agg #[.int .i64 0,.int .i64 0]):=⟨Z⟩
instance:cF prog 58:=⟨Z⟩
instance:iL prog 58:=⟨Z⟩
instance:cu prog 58 65 5:=⟨Z⟩
instance:bQ prog 58 (.slice none 0 0):=⟨Z⟩
instance:dJ prog 60 8:=⟨Z⟩
instance:bB prog 60 0 3 0:=⟨Z⟩
instance:bB prog 60 1 57 1:=⟨Z⟩
instance:bB prog 60 2 3 3:=⟨Z⟩
instance:bB prog 60 3 58 4:=⟨Z⟩
instance:bB prog 60 4 58 5:=⟨Z⟩
instance:bB prog 60 5 37 6:=⟨Z⟩
instance:bB prog 60 6 4 7:=⟨Z⟩
instance:bQ prog 60 (.agg #[.int .i64 0,.int .i64 0,.int .i64 0,.int .i64 0,.slice none 0 0,.slice none 0 0,.slice none 0 0,.bool false]):=⟨Z⟩
instance:fw prog 60 112:=⟨Z⟩
instance:dJ prog 62 9:=⟨Z⟩
instance:bB prog 62 0 3 0:=⟨Z⟩
instance:bB prog 62 1 3 1:=⟨Z⟩
instance:bB prog 62 2 3 2:=⟨Z⟩
instance:bB prog 62 3 3 3:=⟨Z⟩
instance:bB prog 62 4 3 4:=⟨Z⟩
instance:bB prog 62 5 3 5:=⟨Z⟩
instance:bB prog 62 6 3 6:=⟨Z⟩
instance:bB prog 62 7 3 7:=⟨Z⟩
instance:bB prog 62 8 3 8:=⟨Z⟩
instance:bQ prog 62 (.agg #[.int .i64 0,.int .i64 0,.int .i64 0,.int .i64 0,.int .i64 0,.int .i64 0,.int .i64 0,.int .i64 0,.int .i64 0]):=⟨Z⟩
instance:dJ prog 65 5:=⟨Z⟩
instance:bB prog 65 0 3 0:=⟨Z⟩
instance:bB prog 65 1 3 1:=⟨Z⟩
instance:bB prog 65 2 3 2:=⟨Z⟩
instance:bB prog 65 3 3 3:=⟨Z⟩
instance:bB prog 65 4 3 4:=⟨Z⟩
instance:bQ prog 65 (.agg #[.int .i64 0,.int .i64 0,.int .i64 0,.int .i64 0,.int .i64 0]):=⟨Z⟩
instance:fw prog 65 40:=⟨Z⟩
instance:cF prog 85:=⟨Z⟩
instance:iL prog 85:=⟨Z⟩
instance:cu prog 85 445 3:=⟨Z⟩
instance:dJ prog 87 9:=⟨Z⟩
instance:bB prog 87 0 3 0:=⟨Z⟩
instance:bB prog 87 1 3 1:=⟨Z⟩
instance:bB prog 87 2 3 2:=⟨Z⟩
instance:bB prog 87 3 3 3:=⟨Z⟩
instance:bB prog 87 4 3 4:=⟨Z⟩
instance:bB prog 87 5 85 5:=⟨Z⟩
instance:bB prog 87 6 3 6:=⟨Z⟩
instance:bB prog 87 7 3 7:=⟨Z⟩
instance:bB prog 87 8 3 8:=⟨Z⟩
instance:bQ prog 87 (.agg #[.int .i64 0,.int .i64 0,.int .i64 0,.int .i64 0,.int .i64 0,.slice none 0 0,.int .i64 0,.int .i64 0,.int .i64 0]):=⟨Z⟩
instance:fw prog 87 88:=⟨Z⟩
instance:cF prog 88:=⟨Z⟩
instance:cu prog 88 57 2:=⟨Z⟩
instance:dJ prog 90 3:=⟨Z⟩
instance:bB prog 90 0 3 0:=⟨Z⟩
instance:bB prog 90 1 88 1:=⟨Z⟩
instance:bB prog 90 2 37 2:=⟨Z⟩
instance:bQ prog 90 (.agg #[.int .i64 0,.slice none 0 0,.slice none 0 0]):=⟨Z⟩
instance:fw prog 90 56:=⟨Z⟩
instance:dJ prog 96 2:=⟨Z⟩
instance:bB prog 96 0 3 0:=⟨Z⟩
instance:bB prog 96 1 3 1:=⟨Z⟩
instance:bQ prog 96 (.agg #[.int .i64 0,.int .i64 0]):=⟨Z⟩
instance:dJ prog 97 4:=⟨Z⟩
instance:P5 prog 97 2 96 2:=⟨Z⟩
instance:dJ prog 99 12:=⟨Z⟩
instance:bB prog 99 1 3 1:=⟨Z⟩
instance:bB prog 99 2 3 2:=⟨Z⟩
instance:bB prog 99 3 3 3:=⟨Z⟩
instance:bB prog 99 4 3 4:=⟨Z⟩
instance:bB prog 99 5 3 5:=⟨Z⟩
instance:bB prog 99 6 57 6:=⟨Z⟩
instance:bB prog 99 7 97 8:=⟨Z⟩
instance:bQ prog 99 (.agg #[.string ⟨#[]⟩,.int .i64 0,.int .i64 0,.int .i64 0,.int .i64 0,.int .i64 0,.int .i64 0,.int .i64 0,.int .i64 0,.int .i64 0,.int .i64 0,.int .i64 0]):=⟨Z⟩
instance:dJ prog 102 4:=⟨Z⟩
instance:bB prog 102 1 3 1:=⟨Z⟩
instance:bB prog 102 2 3 2:=⟨Z⟩
instance:bB prog 102 3 3 3:=⟨Z⟩
instance:bQ prog 102 (.agg #[.string ⟨#[]⟩,.int .i64 0,.int .i64 0,.int .i64 0]):=⟨Z⟩
instance:cF prog 103:=⟨Z⟩
instance:iL prog 103:=⟨Z⟩
instance:bQ prog 103 (.nilFunc):=⟨Z⟩
instance:dJ prog 114 4:=⟨Z⟩
instance:bB prog 114 0 3 0:=⟨Z⟩
instance:bB prog 114 1 3 1:=⟨Z⟩
instance:bB prog 114 2 3 2:=⟨Z⟩
instance:bB prog 114 3 4 3:=⟨Z⟩
instance:bQ prog 114 (.agg #[.int .i64 0,.int .i64 0,.int .i64 0,.bool false]):=⟨Z⟩
instance:fw prog 114 32:=⟨Z⟩
instance:cu prog 119 124 4:=⟨Z⟩
instance:dJ prog 124 4:=⟨Z⟩
instance:bB prog 124 0 3 0:=⟨Z⟩
instance:bB prog 124 1 3 1:=⟨Z⟩
instance:bB prog 124 2 3 2:=⟨Z⟩
instance:bB prog 124 3 3 3:=⟨Z⟩
instance:bQ prog 124 (.agg #[.int .i64 0,.int .i64 0,.int .i64 0,.int .i64 0]):=⟨Z⟩
instance:fw prog 124 32:=⟨Z⟩
instance:dJ prog 126 4:=⟨Z⟩
instance:bB prog 126 1 3 1:=⟨Z⟩
instance:bB prog 126 2 3 2:=⟨Z⟩
instance:bB prog 126 3 3 3:=⟨Z⟩
instance:bQ prog 126 (.agg #[.string ⟨#[]⟩,.int .i64 0,.int .i64 0,.int .i64 0]):=⟨Z⟩
instance:jx prog 127 130 3:=⟨Z⟩
instance:dJ prog 130 2:=⟨Z⟩
instance:bQ prog 130 (.agg #[.int .i64 0,.int .i64 0]):=⟨Z⟩
instance:dJ prog 134 4:=⟨Z⟩
instance:bB prog 134 0 4 0:=⟨Z⟩
instance:bB prog 134 1 3 1:=⟨Z⟩
instance:bB prog 134 2 3 2:=⟨Z⟩
instance:bB prog 134 3 3 3:=⟨Z⟩
instance:bQ prog 134 (.agg #[.bool false,.int .i64 0,.int .i64 0,.int .i64 0]):=⟨Z⟩
instance:fw prog 134 32:=⟨Z⟩
instance:cF prog 138:=⟨Z⟩
instance:cu prog 138 134 4:=⟨Z⟩
instance:dJ prog 140 3:=⟨Z⟩
instance:bB prog 140 0 37 0:=⟨Z⟩
instance:bB prog 140 1 37 1:=⟨Z⟩
instance:bB prog 140 2 138 2:=⟨Z⟩
instance:bQ prog 140 (.agg #[.slice none 0 0,.slice none 0 0,.slice none 0 0]):=⟨Z⟩
instance:dJ prog 148 2:=⟨Z⟩
instance:P5 prog 148 2 3 1:=⟨Z⟩
instance:bQ prog 148 (.agg #[.int .i64 0,.int .i64 0]):=⟨Z⟩
instance:cF prog 163:=⟨Z⟩
instance:iL prog 163:=⟨Z⟩
instance:jx prog 163 148 3:=⟨Z⟩
instance:bQ prog 163 (.map none):=⟨Z⟩
instance:dJ prog 171 10:=⟨Z⟩
instance:bB prog 171 0 9 0:=⟨Z⟩
instance:bB prog 171 1 3 1:=⟨Z⟩
instance:bB prog 171 2 3 2:=⟨Z⟩
instance:bB prog 171 3 3 3:=⟨Z⟩
instance:bB prog 171 4 3 4:=⟨Z⟩
instance:bB prog 171 5 3 5:=⟨Z⟩
instance:bB prog 171 6 3 6:=⟨Z⟩
instance:bB prog 171 7 3 7:=⟨Z⟩
instance:bB prog 171 8 3 8:=⟨Z⟩
instance:bB prog 171 9 3 9:=⟨Z⟩
instance:bQ prog 171 (.agg #[.string ⟨#[]⟩,.int .i64 0,.int .i64 0,.int .i64 0,.int .i64 0,.int .i64 0,.int .i64 0,.int .i64 0,.int .i64 0,.int .i64 0]):=⟨Z⟩
instance:fw prog 171 88:=⟨Z⟩
instance:dJ prog 173 4:=⟨Z⟩
instance:bB prog 173 0 3 0:=⟨Z⟩
instance:bB prog 173 1 3 1:=⟨Z⟩
instance:bB prog 173 2 3 2:=⟨Z⟩
instance:bB prog 173 3 3 3:=⟨Z⟩
instance:bQ prog 173 (.agg #[.int .i64 0,.int .i64 0,.int .i64 0,.int .i64 0]):=⟨Z⟩
instance:cF prog 174:=⟨Z⟩
instance:bQ prog 174 (.nilFunc):=⟨Z⟩
instance:cu prog 180 174 1:=⟨Z⟩
instance:cu prog 195 58 1:=⟨Z⟩
instance:bQ prog 199 (.nilFunc):=⟨Z⟩
instance:cF prog 216:=⟨Z⟩
instance:iL prog 216:=⟨Z⟩
instance:jx prog 216 223 3:=⟨Z⟩
instance:bQ prog 216 (.map none):=⟨Z⟩
instance:dJ prog 223 2:=⟨Z⟩
instance:bB prog 223 0 3 0:=⟨Z⟩
instance:bB prog 223 1 3 1:=⟨Z⟩
instance:bQ prog 223 (.agg #[.int .i64 0,.int .i64 0]):=⟨Z⟩
instance:dJ prog 230 3:=⟨Z⟩
instance:bB prog 230 0 3 0:=⟨Z⟩
instance:bB prog 230 1 3 1:=⟨Z⟩
instance:bB prog 230 2 3 2:=⟨Z⟩
instance:bQ prog 230 (.agg #[.int .i64 0,.int .i64 0,.int .i64 0]):=⟨Z⟩
instance:fw prog 230 24:=⟨Z⟩
instance:cF prog 237:=⟨Z⟩
instance:jx prog 237 3 265:=⟨Z⟩
instance:dJ prog 239 11:=⟨Z⟩
instance:bB prog 239 0 31 0:=⟨Z⟩
instance:bB prog 239 1 237 10:=⟨Z⟩
instance:bQ prog 239 (.agg #[.string ⟨#[]⟩,.int .i64 0,.int .i64 0,.int .i64 0,.slice none 0 0,.slice none 0 0,.slice none 0 0,.slice none 0 0,.slice none 0 0,.slice none 0 0,.map none]):=⟨Z⟩
instance:cF prog 242:=⟨Z⟩
instance:iL prog 242:=⟨Z⟩
instance:cu prog 242 248 2:=⟨Z⟩
instance:bQ prog 242 (.slice none 0 0):=⟨Z⟩
instance:dJ prog 248 2:=⟨Z⟩
instance:bB prog 248 0 3 0:=⟨Z⟩
instance:bB prog 248 1 3 1:=⟨Z⟩
instance:bQ prog 248 (.agg #[.int .i64 0,.int .i64 0]):=⟨Z⟩
instance:fw prog 248 16:=⟨Z⟩
instance:cF prog 250:=⟨Z⟩
instance:iL prog 250:=⟨Z⟩
instance:bQ prog 250 (.nilFunc):=⟨Z⟩
instance:cF prog 260:=⟨Z⟩
instance:iL prog 260:=⟨Z⟩
instance:bQ prog 260 (.nilFunc):=⟨Z⟩
instance:cu prog 265 270 2:=⟨Z⟩
instance:bQ prog 265 (.slice none 0 0):=⟨Z⟩
instance:dJ prog 270 2:=⟨Z⟩
instance:bB prog 270 0 4 0:=⟨Z⟩
instance:bB prog 270 1 3 1:=⟨Z⟩
instance:bQ prog 270 (.agg #[.bool false,.int .i64 0]):=⟨Z⟩
instance:fw prog 270 16:=⟨Z⟩
instance:cF prog 274:=⟨Z⟩
instance:jx prog 274 3 3:=⟨Z⟩
instance:cu prog 281 38 1:=⟨Z⟩
instance:jx prog 294 3 87:=⟨Z⟩
instance:dJ prog 297 4:=⟨Z⟩
instance:bB prog 297 0 3 0:=⟨Z⟩
instance:bB prog 297 1 3 1:=⟨Z⟩
instance:bB prog 297 2 3 2:=⟨Z⟩
instance:bB prog 297 3 3 3:=⟨Z⟩
instance:bQ prog 297 (.agg #[.int .i64 0,.int .i64 0,.int .i64 0,.int .i64 0]):=⟨Z⟩
instance:cF prog 300:=⟨Z⟩
instance:iL prog 300:=⟨Z⟩
instance:jx prog 300 3 4:=⟨Z⟩
instance:bQ prog 300 (.map none):=⟨Z⟩
instance:dJ prog 309 5:=⟨Z⟩
instance:bB prog 309 1 3 1:=⟨Z⟩
instance:bB prog 309 2 3 2:=⟨Z⟩
instance:bQ prog 309 (.agg #[.int .i64 0,.int .i64 0,.int .i64 0,.int .i64 0,.int .i64 0]):=⟨Z⟩
instance:cF prog 322:=⟨Z⟩
instance:iL prog 322:=⟨Z⟩
instance:qO prog 322 .u64:=⟨Z⟩
instance:bQ prog 322 (.int .u64 0):=⟨Z⟩
instance:cu prog 323 199 1:=⟨Z⟩
instance:bQ prog 328 (.nilFunc):=⟨Z⟩
instance:cu prog 331 337 2:=⟨Z⟩
instance:cF prog 332:=⟨Z⟩
instance:qO prog 332 .u64:=⟨Z⟩
instance:dJ prog 337 2:=⟨Z⟩
instance:bB prog 337 0 3 0:=⟨Z⟩
instance:bB prog 337 1 332 1:=⟨Z⟩
instance:bQ prog 337 (.agg #[.int .i64 0,.int .u64 0]):=⟨Z⟩
instance:fw prog 337 16:=⟨Z⟩
instance:cF prog 341:=⟨Z⟩
instance:iL prog 341:=⟨Z⟩
instance:jx prog 341 3 343:=⟨Z⟩
instance:bQ prog 341 (.map none):=⟨Z⟩
instance:bQ prog 343 (.nilFunc):=⟨Z⟩
instance:dJ prog 365 2:=⟨Z⟩
instance:bB prog 365 1 3 1:=⟨Z⟩
instance:bQ prog 365 (.agg #[.string ⟨#[]⟩,.int .i64 0]):=⟨Z⟩
instance:cF prog 386:=⟨Z⟩
instance:iL prog 386:=⟨Z⟩
instance:cu prog 386 390 6:=⟨Z⟩
instance:bQ prog 386 (.slice none 0 0):=⟨Z⟩
instance:dJ prog 390 6:=⟨Z⟩
instance:bB prog 390 0 65 0:=⟨Z⟩
instance:bB prog 390 1 3 5:=⟨Z⟩
instance:bQ prog 390 (.agg #[.int .i64 0,.int .i64 0,.int .i64 0,.int .i64 0,.int .i64 0,.int .i64 0]):=⟨Z⟩
instance:fw prog 390 48:=⟨Z⟩
instance:cF prog 391:=⟨Z⟩
instance:iL prog 391:=⟨Z⟩
instance:jx prog 391 3 392:=⟨Z⟩
instance:bQ prog 391 (.map none):=⟨Z⟩
instance:cu prog 392 230 3:=⟨Z⟩
instance:bQ prog 392 (.slice none 0 0):=⟨Z⟩
instance:cF prog 393:=⟨Z⟩
instance:iL prog 393:=⟨Z⟩
instance:jx prog 393 3 400:=⟨Z⟩
instance:bQ prog 393 (.map none):=⟨Z⟩
instance:cF prog 395:=⟨Z⟩
instance:iL prog 395:=⟨Z⟩
instance:cu prog 395 65 5:=⟨Z⟩
instance:bQ prog 395 (.slice none 0 0):=⟨Z⟩
instance:bQ prog 400 (.nilFunc):=⟨Z⟩
instance:cu prog 417 328 1:=⟨Z⟩
instance:dJ prog 445 3:=⟨Z⟩
instance:bB prog 445 0 3 0:=⟨Z⟩
instance:bB prog 445 1 96 1:=⟨Z⟩
instance:bQ prog 445 (.agg #[.int .i64 0,.int .i64 0,.int .i64 0]):=⟨Z⟩
instance:jx prog 452 455 3:=⟨Z⟩
instance:jx prog 453 455 4:=⟨Z⟩
instance:dJ prog 455 2:=⟨Z⟩
instance:bB prog 455 0 3 0:=⟨Z⟩
instance:bB prog 455 1 3 1:=⟨Z⟩
instance:bQ prog 455 (.agg #[.int .i64 0,.int .i64 0]):=⟨Z⟩
instance:cF prog 456:=⟨Z⟩
instance:jx prog 456 466 4:=⟨Z⟩
instance:dJ prog 458 3:=⟨Z⟩
instance:bB prog 458 0 274 0:=⟨Z⟩
instance:bB prog 458 1 456 1:=⟨Z⟩
instance:bB prog 458 2 456 2:=⟨Z⟩
instance:bQ prog 458 (.agg #[.map none,.map none,.map none]):=⟨Z⟩
instance:dJ prog 466 2:=⟨Z⟩
instance:bB prog 466 1 3 1:=⟨Z⟩
instance:bQ prog 466 (.agg #[.int .i64 0,.int .i64 0]):=⟨Z⟩
instance:cF prog 498:=⟨Z⟩
instance:bB prog 500 0 498 0:=⟨Z⟩
end Go.Proofs.YtakcjkbnfegidaaGreat
namespace Go.Proofs.YtakcjkbnfegidaaGreat
open Go Go.RowKit Tryz
variable{e t:TypeId}{c n sz:Nat}{w w0:World}{K:Value->Prop}{cs:aW}{D:Nat->Prop}{A:bZ}
theorem pj(n:Int):IntKind.u64.wrap n=n%18446744073709551616:=by
 simp[IntKind.wrap,IntKind.bits,IntKind.signed]
theorem u64_and_nat(a b:Nat)(z:a<18446744073709551616)(u:b<18446744073709551616):bits .and .u64 (a:Int) (b:Int)=((a&&& b:Nat):Int):=by
 have A:a&&& b<2 ^ 64:=Nat.and_lt_two_pow _ Y;show IntKind.u64.wrap ((BitVec.ofInt 64 (a:Int)&&& BitVec.ofInt 64 (b:Int)).toNat:Int)=_;have e:∀n:Nat,n<18446744073709551616->(BitVec.ofInt 64 (n:Int)).toNat=n:=λn J=>Yg;rw[BitVec.toNat_and,e a z,e b u,pj];omega
section
variable {P:Program} {X:XK}
theorem cR{f:FuncId}[h:Enters P f]{args:Array Value}{w:World}{K:VK}{b:Bool}(c:aK P f args w λv u=>v=.bool b/\u=w)(A:b=true->K (.bool true) w)(z:b=false->K (.bool false) w):vF P f args K X w:=
 aJ c λv u ⟨M,J⟩=>by
  subst M;subst J
  cases b with
  |true=>exact A rfl
  |false=>exact z rfl
theorem P7{S:World->Prop}{f:FuncId}[h:Enters P f]{args:Array Value}{K:Value->Prop}{b:Bool}(c:∀w,S w->aK P f args w λu z=>u=.bool b/\z=w)(J:b=true->K (.bool true))(A:b=false->K (.bool false)):L1 P S f args K:=
 um (v:=.bool b) c (by
  cases b with
  |true=>exact J rfl
  |false=>exact A rfl)
theorem dt{f:FuncId}[h:Enters P f]{args:Array Value}{w:World}{K:VK}{b:Bool}(c:aK P f args w λv u=>v=.bool b/\ax w u)(J:∀u,b=true->ax w u->K (.bool true) u)(A:∀u,b=false->ax w u->K (.bool false) u):vF P f args K X w:=
 aJ c λv u ⟨M,z⟩=>by
  subst M
  cases b with
  |true=>exact J u rfl z
  |false=>exact A u rfl z
theorem UL[dJ P t n]{b o:Nat}(cs:aW)(J:bF w b o cs)(A:cs.length=n)(z:ax w w0)(k:K (.agg cs.toArray)):kg P (λu=>ax w0 u) t (.pointer (some (ad b o))) K:=xM cs (λ_ hu=>J.ah (z.ae hu) Yt) A k
theorem bF.aS{g:Nat}(h:aP w g t cs):bF w g 0 cs:=λj v u=>by rw[as9];exact h.ai u
theorem Kj[h:FQ P t](a b:Bool)(w:World):(Op.equal t (.bool a) (.bool b)).run P w=.ok (a == b) w:=by
 have hu:P.underlying t=some .bool:=by have:=h.h;unfold Xh at this;split at this<;>simp_all
 exact adv
theorem UM[FQ P t](z u:Operand)(a b:Bool)(w:World):(do eqGuard .neq t z u (.bool a) (.bool b);binOp .neq t (.bool a) (.bool b):Sem Value).run P w=.ok (.bool (!(a == b))) w:=by
 have h1:(eqGuard .neq t z u (.bool a) (.bool b)).run P w=.ok () w:=rfl;have A:binOp .neq t (.bool a) (.bool b)=(do pure (.bool (!(<-Op.equal t (.bool a) (.bool b))))):=rfl;rw[asI,h1,A];simp only[asJ,asI,Kj,atr]
theorem neB[h:FQ P t]{z u:Operand}{a b:Bool}(J:a≠b->K (.bool true))(A:a=b->K (.bool false)):AF P .neq t z u (.bool a) (.bool b) K:=by
 rw[ke];apply cW λw=>UM z u a b w;by_cases e:a=b
 .exact Yg
 .exact Yg
theorem hY{ps:Array (Nat×Value)}(cs:aW)(h:P.built t ps.toList=some cs.toArray)(k:K (.agg cs.toArray)):ZA P t ps K:=by
 rw[FG];exact cW (λw=>run_build w t ps cs.toArray h) k
theorem P8(D:Nat->Prop)(os es:List Nat){ops:Array Oper}{K:Fr->World->Prop}{F:Fr}(hm:P.follows .mixedOrders=true)(z:pU ops [] (sU es os)=true)(h:fA P ops.toList K X (sU es os) (λu=>aj D w u) F w):mM P ops K X F w:=ajU os es _ hm z (aj.refl _ _) h
theorem fu[cF P t]{a:Addr}(v:Value)(A:w.cell? a=some v)(J:D a.block)(z:aj D w w0)(k:K v):kg P (λu=>aj D w0 u) t (.pointer (some a)) K:=pb v (λ_ hu=>(z.trans hu).ai A J) k
theorem tM[dJ P t n]{b o:Nat}(cs:aW)(J:bF w b o cs)(A:cs.length=n)(M:D b)(z:aj D w w0)(k:K (.agg cs.toArray)):kg P (λu=>aj D w0 u) t (.pointer (some (ad b o))) K:=xM cs (λ_ hu=>J.ah (z.trans hu) M) A k
theorem amB{C:(World->Prop)->Prop}(h:aj D w0 w)(c:C λu=>aj D w u):nx (λu=>aj D w0 u) w C:=aqh _ (aj.refl _ _) (λ_ hu=>h.trans hu) c
theorem Kk{t e:TypeId}{n sz:Nat}(h:P4 P t=some (n,e,sz)):P.underlying t=some (.array n e)/\∃i,P.info? e=some i/\i.size=sz:=by
 unfold P4 at h;split at h
 .rename_i z u he;cases hi:P.info? u with
  |none=>rw[hi] at h;cases h
  |some i=>rw[hi] at h;simp at h;obtain⟨rfl,rfl,rfl⟩:=h;exact⟨he,i,hi,rfl⟩
 .cases h
theorem qW[h:P5 P t n e sz]{b o:Nat}{kd:IntKind}{i:Int}(k:Nat)(hi:i=k)(hk:k<n)(z:K (.pointer (some (ad b (o+k*sz))))):LZ P t (.pointer (some (ad b o))) (.int kd i) K:=by
 rw[vD];obtain⟨hu,inf,u,hs⟩:=Kk h.h;subst hi;refine cW (λw=>?_) z;simp[Instr.indexAt,asIntOf,asX hu,run_sizeOf u,hs,ru,hk,Instr.sureAddr]
structure bu (w0 w:World) (A:bZ) (n c:Nat) (e:TypeId) (sz:Nat) (cs:aW):Prop where
 own:jH w (.slice A n c) e sz n cs
 ae:ax w0 w
 new:∀g,A=some (ad g 0)->w0.heap.size<=g
theorem bu.nil(h:ax w0 w):bu w0 w none 0 0 e sz []:=⟨jH.nil w e sz,h,λg u=>by cases u⟩
theorem bu.lit{z:World}{g:Nat}(h:ax w0 w)(u:qU w e cs g z)(A:cs.length=n*sz)(M:n<=maxLen:=by decide):bu w0 z (some (ad g 0)) n n e sz cs:=⟨jH.iH (rest:=[]) (by simpa using u.aS) A (by simpa using A) (asN _) M,h.trans u.ae,λO J=>by simp only[atW,avI] at J;rw[<-J.1,u.au];exact h.size⟩
theorem bu.ag{u:World}(h:bu w0 w A n c e sz cs)(k:ax w u):bu w0 u A n c e sz cs:=⟨h.own.ae k,h.ae.trans k,h.new⟩
theorem bu.bY{w0 w J:World}{D:Nat->Prop}{A:bZ}{n c:Nat}{e:TypeId}{sz:Nat}{cs:aW}(h:bu w0 w A n c e sz cs)(k:aj D w J)(V:∀g,A=some (ad g 0)->D g)(O:ax w0 J):bu w0 J A n c e sz cs:=
 ⟨h.own.ah k (λg z=>by
  cases M:A with
  |none=>rw[M] at z;cases z
  |some a=>
   rcases h.own.form with⟨u,_⟩|⟨W,cap,u,_⟩
   .rw[M] at u;cases u
   .injection u with u;subst u;injection z with z;subst z;exact V _ rfl),O,h.new⟩
theorem bu.base{v0:World}(h:bu w0 w A n c e sz cs)(k:ax v0 w0):bu v0 w A n c e sz cs:=⟨h.own,k.trans h.ae,λg u=>atI k.size (h.new g u)⟩
theorem bu.form(h:bu w0 w A n c e sz cs):(A=none/\n=0/\c=0)\/∃g,A=some (ad g 0)/\w0.heap.size<=g/\g<w.heap.size/\n<=c:=by
 rcases h.own.form with⟨u,V⟩|⟨O,cap,u,M⟩
 .injection u with h1 J z;exact .inl ⟨h1,J,z⟩
 .injection u with h1 J z;subst z;exact .inr ⟨O,h1,h.new _ h1,h.own.lt (by rw[h1];rfl),M⟩
theorem bu.le(h:bu w0 w A n c e sz cs):n<=c:=by
 rcases h.form with⟨_,h1,z⟩|⟨_,_,_,_,u⟩
 .omega
 .exact u
theorem iI{W:Nat}{zv:Value}[h:cu P t e sz][hz:bQ P e zv][aa:fw P e W]{ty:TypeId}{a8:Array Bool}{m c2:Nat}{B:bZ}{news:aW}{K:VK}(z:bu w0 w A n c e sz cs)(hs:Src w B m sz news)(hb:(n+m)*W<=140737488355328)(kk:∀Y c' J,bu w0 J Y (n+m) c' e sz (cs++news)->aj (λb=>A≠some (ad b 0)) w J->(Y=A\/Y=none\/Y=some (ad w.heap.size 0))->K (.slice Y (n+m) c') J)(a7:n+m<=9223372036854775807:=by omega)(h1:(news.all λu=>u.oneCell')=true:=by rfl)(a1:(cz zv).length=sz:=by rfl)(O:Nat.blt 0 sz=true:=by rfl):DE P .append #[t,t] ty a8 #[.slice A n c,.slice B m c2] K X w:=by
 refine app z.own hs (λu hu=>asH.1 h1 u hu) a1 (asB O) hb a7 λv' J V=>?_;have hk:aj (λb=>A≠some (ad b 0)) w J:=V.ah.cU λi _ a6 e=>by
  apply a6;rcases z.form with⟨M,_⟩|⟨g',M,_⟩
  .rw[M] at e;cases e
  .rw[M] at e|-;injection e with e;rw[<-e]
 have hx:ax w0 J:=⟨hk.os.trans z.ae.os,hk.tape.trans z.ae.tape,hk.output.trans z.ae.output,atI z.ae.size hk.size,λi hi _=>by rw[hk.aS i (auH hi z.ae.size) λe=>by have:=z.new i e;omega];exact z.ae.aS i hi Yt⟩
 rcases V.own.form with⟨rfl,h0⟩|⟨g,cap,rfl,hc⟩
 .have hh:=kk none 0 J ⟨by have:=V.own;rw[h0] at this|-;exact this,hx,λg Z=>by cases Z⟩ hk (.inr (.inl rfl));rw[h0] at hh;exact hh
 .have Z:A=some (ad g 0)\/g=w.heap.size:=by
   rcases V.au with h|h
   .left;rcases z.form with⟨M,_⟩|⟨g',M,_⟩
    .rw[M] at h;cases h
    .rw[M] at h;injection h with h;rw[M];have h:g=g':=h;rw[h]
   .right;injection h
  refine kk (some (ad g 0)) cap J ⟨V.own,hx,λg' e'=>?_⟩ hk ?_
  .simp only[atW,avI] at e';obtain⟨rfl,_⟩:=e';rcases Z with h|h
   .exact z.new _ h
   .rw[h];exact z.ae.size
  .rcases Z with h|h
   .exact .inl h.symm
   .right;right;rw[h]
theorem lit{zv:Value}[h:cu P t e sz][Y:bQ P e zv](vs:aW){ps:Array (Nat×Value)}{K:VK}(M:∀g J,qU w e (vs.flatMap cz) g J->K (.slice (some (ad g 0)) n n) J)(V:ps=((vs.zipIdx 0).map λp=>(p.2,p.1)).toArray:=by rfl)(W:n=vs.length:=by rfl)(O:(vs.all λv=>Nat.beq (cz v).length sz)=true:=by rfl)(z:(cz zv).length=sz:=by rfl)(u:Nat.ble (vs.length*sz) 16777216=true:=by rfl):L3 P t n ps K w:=aqi vs V W (λv A=>atx (asH.1 O v A)) z (asB u) M
theorem qU.src{u:World}{g:Nat}(J:qU w e cs g u)(A:cs.length=n*sz):Src u (some (ad g 0)) n sz cs:=⟨A,λ_=>⟨g,0,rfl,λj v z=>by rw[as9];exact J.aS.ai z⟩⟩
end
abbrev nv(k:Nat):Value:=.int .i64 (k:Int)
theorem bu.ints{xs:aX}(h:bu w0 w A n c e 1 (xs.map λk=>.int .i64 k))(u:∀x∈xs,jt x)(hle:n<=140737488355328)(J:∀b,w0.heap.size<=b->D b):bS cO D w A n xs:=jH.rd (a:=cO) (e:=e) h.own (fX u) (by have:=h.own.an;simpa using this.symm) hle λg z=>J g (h.new g z)
end Go.Proofs.YtakcjkbnfegidaaGreat
