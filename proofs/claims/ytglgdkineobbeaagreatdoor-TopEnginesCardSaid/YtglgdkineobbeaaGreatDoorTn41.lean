/- Parts of the proof. -/
import Derived.Test.YtglgdkineobbeaaGreatDoorTn40
open Go.Call renaming operands->NQ
open Go.Calls renaming mono->Sm
open Go.Op renaming operands->Mi
open Go.Oper renaming wp->PY
open Go.Region renaming binds->NS,ready->MQ,wanted->Mz
open List renaming range->Ma
namespace Go.Abs
section
variable {P:Program} {N:Nat}
structure CallM (P:Program) (N:Nat) (f:FuncId) (vs:Array Value) (h:Heap) (Q:Value->Heap->Prop):Prop where
 ok:lp P f=true
 spec:∀ι w vs',HRel N ι h w->bB ι vs vs'->Calls P f vs' w λen w'=>∃ι' v' v h',en=.returned v'/\Q v h'/\h.size<=h'.size/\VRel ι' v v'/\HRel N ι' h' w'/\Step N ι h w ι' h' w'
theorem sy{o:Oper}{e:Env}{a:Act}{ι:Inj}{h:Heap}{w:World}(H:HRel N ι h w)(hρ:∀x∈o.op.operands,VRel ι (e.eval x) (a.eval x)){f:FuncId}{vs:Array Value}{R:Value->Heap->Prop}(h1:fq e.eval o.op=some (f,vs))(h2:CallM P N f vs h R){K:Act->World->Prop}{Q:Exit->Act->World->Prop}
  (k:∀ι' v' v h' w',R v h'->h.size<=h'.size->VRel ι' v v'->HRel N ι' h' w'->Step N ι h w ι' h' w'->K (a.put o.dst v') w'):o.wp P a w K Q:=by
 unfold PY;obtain⟨dst,op,type,pos,after,guard⟩:=o
 cases op <;> try (simp[fq] at h1;done)
 rename_i c;obtain⟨callee,args,argTypes⟩:=c
 cases callee <;> try (simp[fq] at h1;done)
 rename_i fv;simp only[fq] at h1;have hfv:=hρ fv (by simp[Mi,NQ]);generalize ef:e.eval fv=y0 at hfv h1;generalize ef':a.eval fv=y1 at hfv
 cases hfv <;> try (simp at h1;done)
 rename_i fn first cap first' cap' s1 s2 g1 g2
 cases fn <;> try (simp at h1;done)
 rename_i f0;simp only[LR,Mn] at h1;obtain⟨rfl,rfl⟩:=h1
 have hargs:bB ι (first++args.map e.eval++cap) (first'++args.map a.eval++cap'):=by
  rw[bB.iK];simp only[OZ];exact ((bB.list ⟨s1,g1⟩).append (bB.map args (λx hx=>hρ x (by simp[Mi,NQ,hx]))).list).append (bB.list ⟨s2,g2⟩)
 have hexec:(execOp a.eval ⟨dst,.call ⟨.value fv,args,argTypes⟩,type,pos,after,guard⟩).run P w=(callFunc f0 (first'++args.map a.eval++cap')).run P w:=by
  simp only[execOp,resolve,Sem.run_bind,Deferred.ofValue,ef',Sem.run_pure,Result.andThen_ok,invoke]
 rw[hexec,fj h2.ok];refine Sm (h2.spec ι w _ H hargs) ?_;rintro en w' ⟨ι',v',v,h',rfl,q0,q1,q2,q3,q4⟩;exact k ι' v' v h' w' q0 q1 q2 q3 q4
def FW(P:Program)(N:Nat)(o:Oper)(K:X->Env->Heap->Prop)(e1:Env)(h1:Heap):Prop :=
 ∃f vs R,fq e1.eval o.op=some (f,vs)/\CallM P N f vs h1 R/\∀v h2,R v h2->K .normal (e1.put o.dst v) h2
theorem C4{o:Oper}{n:Nat}{K:X->Env->Heap->Prop}{ι0 ι:Inj}{h0 h:Heap}{w0 w:World}{e:Env}{a:Act}{Q:Exit->Act->World->Prop}(hok:ig N e.n o=true)(hn:e.n=n)(H:HRel N ι h w)(r:ERel ι e a)(S:Step N ι0 h0 w0 ι h w)(hq:FW P N o K e h) :
  o.wp P a w (λa w=>xE N ι0 n h0 w0 K .normal a w) Q:=by
 obtain⟨f,vs,R,q1,q2,q3⟩:=hq;refine sy H (fT H r hok) q1 q2 λι' v' v h' w' k0 k1 k2 k3 k4=>?_;exact⟨.normal,e.put o.dst v,h',rfl,q3 _ _ k0,by rw[Env.er];exact hn,Mf S.size k1,ι',(r.mono k4.ext).put (jU hok) k2,k3,S.trans k4⟩
theorem fQ{o:Oper}(hg:o.guard.isNone=true)(f:Nat->Option Bool):Mz o f=true:=by
 unfold Mz
 cases q:o.guard with
 |none=>rfl
 |some x=>rw[q] at hg;cases hg
theorem CodeM.GO{id:Nat}{l:List Oper}{o:Oper}{e:Env}{h:Heap}{K:X->Env->Heap->Prop}(hg:o.guard.isNone=true)(hk:RegS P N ⟨l++[o]⟩ l 0 e h (FW P N o K)):CodeM P N (.region id ⟨l++[o]⟩ false) e h K:=⟨λhM hok ι w a H r=>by
 simp only[codeOk,L9] at hok;obtain⟨e1,h1,hd,hq⟩:=hk.spec;refine wp_region ?_
 show wpOps P _ _ (Ma (l++[o]).length) a w
 rw[Ml,L6,OS,List.range'_1_concat];have hoko:=(Md.1 hok.1) o (by simp);refine jM (rest:=[0+l.length]) l 0 (λj x hx=>?_) ι e a h w e1 h1 hok.1 ?_ H r λι' a' w' r1 r2 r3=>?_
 .have hlt:=(LX.1 hx).1
  show (⟨l++[o]⟩:Array Oper)[0+j]?=some x
  rw[MR,Nu,Mb hlt];exact hx
 .exact hd
 .rw[wpOps_cons];unfold wpOp
  have ho:(⟨l++[o]⟩:Array Oper)[0+l.length]?=some o:=by simp
  simp only[ho];rw[if_pos (fQ hg _)]
  exact .inl (C4 (by rw[hd.n];exact hoko) hd.n r2 r1 r3 hq)⟩
theorem yu{o:Oper}{a:Act}{w:World}{K K':Act->World->Prop}{Q Q':Exit->Act->World->Prop}(hK:∀a w,K a w->K' a w)(hQ:∀c a w,Q (.panic c) a w->Q' (.panic c) a w)(hO:LetsOut Q->LetsOut Q')(h:o.wp P a w K Q):o.wp P a w K' Q':=by
 unfold PY at *;generalize (execOp a.eval o).run P w=r at *
 cases r with
 |ok x w' =>
  cases x <;> simp only[Oper.upon] at h ⊢ <;>
   first
    |exact hK _ _ h
    |exact Sm h (λe w'' he=>by cases e <;> first|exact hK _ _ he|exact hQ _ _ _ he|exact hO he)
    |exact λc cs=>(h c cs).imp λ_ q=>q.imp λ_ q=>⟨hK _ _ q.1,q.2⟩
    |exact h
 |halt x w'=>cases x <;> simp only[Oper.upon] at h ⊢ <;> first|exact hQ _ _ _ h|exact h
theorem ug{ops:Array Oper}{Q:Exit->Act->World->Prop}{i:Nat}{K K':Act->World->Prop}(hK:∀a w,K a w->K' a w){a:Act}{w:World}(h:iG P ops Q i K a w):iG P ops Q i K' a w:=by
 unfold iG at *
 cases e:ops[i]? with
 |none=>rw[e] at h;exact hK _ _ h
 |some o =>
  rw[e] at h;simp only at h ⊢;split
  .rename_i hw;rw[if_pos hw] at h;exact yu hK (λ_ _ _ q=>q) id h
  .rename_i hw;rw[if_neg hw] at h;exact hK _ _ h
def LD(Q:Exit->Act->World->Prop)(S:Act->World->Prop):Exit->Act->World->Prop:=λx a w=>match x with
 |.normal=>S a w
 |y=>Q y a w
theorem EK{l:List Oper}{o:Oper}{Q:Exit->Act->World->Prop}(hgl:(l++[o]).all (λx=>x.guard.isNone)=true)(he:mf ⟨l++[o]⟩=true)(hb:∀i,i<l.length->Before ⟨l++[o]⟩ i l.length) :
  ∀(fuel:Nat) (L:Array Bool) (a:Act) (w:World),L.size=l.length->(∀j x,aG L j->(⟨l⟩:Array Oper)[j]?=some x->∀ed∈x.after,NS .any ed=true->aG L ed.on) ->
   Cn P ⟨l⟩ (LD Q (iG P ⟨l++[o]⟩ Q l.length λa w=>Q .normal a w)) fuel L a w->Cn P ⟨l++[o]⟩ Q (fuel+1) (L.push false) a w:=by
 have getl:∀(j:Nat) (x:Oper),(⟨l⟩:Array Oper)[j]?=some x->(⟨l++[o]⟩:Array Oper)[j]?=some x:=λj x hx=>by
  have hx:l[j]?=some x:=by simpa using hx
  show (⟨l++[o]⟩:Array Oper)[j]?=some x
  simp only[MR];rw[Mb (LX.1 hx).1];exact hx
 have pushL:∀(L:Array Bool) (j:Nat),L.size=l.length->(aG (L.push false) j↔aG L j):=λL j hs=>by
  unfold aG;rw[LW,LW,ME];by_cases e:j=L.size
  .rw[if_pos e,e];simp
  .rw[if_neg e]
 have openL:∀(L:Array Bool) (j:Nat),L.size=l.length->j≠l.length->(L.push false).getD j true=L.getD j true:=λL j hs hj=>by
  rw[LW,LW,ME,if_neg (by omega)]
 have cl:∀L:Array Bool,L.size=l.length->(∀j x,aG L j->(⟨l⟩:Array Oper)[j]?=some x->∀ed∈x.after,NS .any ed=true->aG L ed.on)->∀j x,aG (L.push false) j->(⟨l++[o]⟩:Array Oper)[j]?=some x->∀ed∈x.after,NS .any ed=true->aG (L.push false) ed.on:=by
  intro L hs hc j x hj hx ed m b;rw[pushL L _ hs] at hj ⊢
  have hlt:j<l.length:=by
   unfold aG at hj;rw[LW] at hj
   cases q:L[j]? with
   |none=>rw[q] at hj;simp at hj
   |some v=>have:=(L3.1 q).1;omega
  refine hc j x hj ?_ ed m b;simp only[MR] at hx ⊢;rw[Mb hlt] at hx;exact hx
 have readyI:∀(L:Array Bool) (i:Nat),L.size=l.length->i<l.length->i∈MQ .any ⟨l++[o]⟩ (L.push false)->i∈MQ .any ⟨l⟩ L:=by
  intro L i hs hi hr;obtain⟨h1,x,h2,h3⟩:=mem_ready.1 hr;refine mem_ready.2 ⟨by rw[<- openL L i hs (by omega)];exact h1,x,?_,λed m b=>(pushL L _ hs).1 (h3 ed m b)⟩;simp only[MR] at h2 ⊢;rw[Mb hi] at h2;exact h2
 have lastI:∀(L:Array Bool),L.size=l.length->(∀j x,aG L j->(⟨l⟩:Array Oper)[j]?=some x->∀ed∈x.after,NS .any ed=true->aG L ed.on)->l.length∈MQ .any ⟨l++[o]⟩ (L.push false)->∀i,i<l.length->aG L i:=by
  intro L hs hc hr i hi;exact (pushL L _ hs).1 (hT (cl L hs hc) (hb i hi) hr)
 have none_:∀(L:Array Bool),(∀i,i<l.length->aG L i)->MQ .any ⟨l⟩ L=[]:=by
  intro L hall
  cases q:MQ .any ⟨l⟩ L with
  |nil=>rfl
  |cons i r =>
   exfalso
   have hm:i∈MQ .any ⟨l⟩ L:=by rw[q];simp
   obtain⟨h1,x,h2,_⟩:=mem_ready.1 hm
   have hi:i<l.length:=by simpa using (L3.1 h2).1
   have:=hall i hi;unfold aG at this;rw[LW] at h1 this
   cases q:L[i]? with
   |none=>rw[q] at this;cases this
   |some v =>
    rw[q] at h1 this;simp only[NI] at h1 this;rw[h1] at this
    cases this
 have fin:∀(L:Array Bool) (fuel:Nat) (a:Act) (w:World),L.size=l.length->(∀i,i<l.length->aG L i)->Q .normal a w->Cn P ⟨l++[o]⟩ Q fuel ((L.push false).setIfInBounds l.length true) a w:=by
  intro L fuel a w hs hall hq
  have hz:MQ .any ⟨l++[o]⟩ ((L.push false).setIfInBounds l.length true)=[]:=by
   cases q:MQ .any ⟨l++[o]⟩ ((L.push false).setIfInBounds l.length true) with
   |nil=>rfl
   |cons i r =>
    exfalso
    have hm:i∈MQ .any ⟨l++[o]⟩ ((L.push false).setIfInBounds l.length true):=by rw[q];simp
    obtain⟨h1,x,h2,_⟩:=mem_ready.1 hm
    have hi:i<l.length+1:=by simpa using (L3.1 h2).1
    by_cases e:i=l.length
    .subst e;rw[LW,Array.getElem?_setIfInBounds_self_of_lt (by simp;omega)] at h1
     cases h1
    .rw[LW,Array.getElem?_setIfInBounds_ne (NU e),<- LW,openL L i hs e] at h1;have:=hall i (by omega);unfold aG at this;rw[LW] at h1 this
     cases q:L[i]? with
   |none=>rw[q] at this;cases this
   |some v =>
    rw[q] at h1 this;simp only[NI] at h1 this;rw[h1] at this
    cases this
  cases fuel with
  |zero=>exact⟨hz,hq⟩
  |succ fuel=>exact⟨λ_=>hq,λi hi=>by rw[hz] at hi;cases hi⟩
 intro fuel
 induction fuel with
 |zero =>
  intro L a w hs hc h;refine⟨λhr=>?_,λi hi=>?_⟩
  .have:=pH he (by simp[hs]) hr l.length (by simp);rw[pushL L _ hs] at this;unfold aG at this;rw[LW,Ny (by omega)] at this
   cases this
  .have hi2:i<l.length+1:=by
    obtain⟨_,x,h2,_⟩:=mem_ready.1 hi;simpa using (L3.1 h2).1
   by_cases e:i=l.length
   .subst e;have hall:=lastI L hs hc hi;exact ug (λa w q=>fin L 0 a w hs hall q) h.2
   .have:=readyI L i hs (by omega) hi;rw[h.1] at this
    cases this
 |succ fuel ih =>
  intro L a w hs hc h;refine⟨λhr=>?_,λi hi=>?_⟩
  .have:=pH he (by simp[hs]) hr l.length (by simp);rw[pushL L _ hs] at this;unfold aG at this;rw[LW,Ny (by omega)] at this
   cases this
  .have hi2:i<l.length+1:=by
    obtain⟨_,x,h2,_⟩:=mem_ready.1 hi;simpa using (L3.1 h2).1
   by_cases e:i=l.length
   .subst e;have hall:=lastI L hs hc hi;exact ug (λa w q=>fin L (fuel+1) a w hs hall q) (h.1 (none_ L hall))
   .have hi':=readyI L i hs (by omega) hi;have h2:=h.2 i hi';obtain⟨_,x,h3,h4⟩:=mem_ready.1 hi';have hgx:x.guard.isNone=true:=Md.1 hgl x (MA _ (LS (by simpa using h3)))
    have hset:(L.push false).setIfInBounds i true=(L.setIfInBounds i true).push false:=by
     apply Q0
     .simp
     .intro k h1 h2;rw[OY,ON] at h1;rw[OC (by rw[ON];exact h1),QI,QI];by_cases c1:i=k
      .subst c1;rw[if_pos rfl,dif_pos (by rw[OY];omega),OC (by omega),if_pos rfl]
      .rw[if_neg c1];by_cases c2:k<L.size
       .rw[dif_pos c2,dif_pos (by rw[OY];exact c2),OC c2,if_neg c1]
       .rw[dif_neg c2,dif_neg (by rw[OY];exact c2)]
    unfold iG at h2 ⊢;rw[getl i x h3];rw[h3] at h2;simp only at h2 ⊢;rw[if_pos (fQ hgx _)] at h2 ⊢;refine yu (λa w q=>?_) (λc a w q=>q) (λq=>q) h2;rw[hset];refine ih (L.setIfInBounds i true) a w (by simpa using hs) (λj y hj hy ed m b=>?_) q;rw[aV (by rw[hs];omega)] at hj ⊢
    rcases hj with rfl|hj
    .rw[h3] at hy;cases hy;exact .inr (h4 ed m b)
    .exact .inr (hc j y hj hy ed m b)
def CY(l:List Oper)(o:Oper):Bool:=(l++[o]).all (λx=>x.guard.isNone)&&mf ⟨l++[o]⟩&&(Ma l.length).all λi=>((mr ⟨l++[o]⟩).getD l.length 0).testBit i
theorem CallM.body(hM:P.follows .mixedOrders=true){f:FuncId}{fn:Func}{c:Code}(hf:P.funcs[f]?=some fn)(hb:fn.body=some c)(ho:jO N fn=true){vs:Array Value}(hs:vs.size<=fn.ntmps){h:Heap}{Q:Value->Heap->Prop}
  (hk:CodeM P N c (cM fn.ntmps vs) h λx e1 h1=>match x with
   |.exit _=>False
   |_=>mu P e1 h1 fn.results.toList λvs=>Q (sQ vs) h1):CallM P N f vs h Q:=by
 obtain⟨ok1,ok2⟩:=nw hf hb ho;refine⟨ok1,λι w vs' H ra=>calls_of_wp hf hb ?_⟩;have hr0:ERel ι (cM fn.ntmps vs) { tmps:=vs'++Array.replicate (fn.ntmps-vs'.size) undef,defers:=[] }:=Db ra hs;refine wp_mono (hk.spec hM (by rw[iS];exact ok2) ι w _ H hr0) ?_;rintro x a' w' ⟨y,e1,h1,rfl,k,hn,hsz,ι',r',H',S⟩
 cases y with
 |exit id=>exact k.elim
 |normal =>
  obtain⟨v,hv,hq⟩:=iH (K:=λv=>Q v h1) k;obtain⟨v',p1,p2⟩:=eH H' r' hv;exact⟨r'.defers,v',p1,ι',v',v,h1,rfl,hq,hsz,p2,H',S⟩
 |ret =>
  obtain⟨v,hv,hq⟩:=iH (K:=λv=>Q v h1) k;obtain⟨v',p1,p2⟩:=eH H' r' hv;exact⟨r'.defers,v',p1,ι',v',v,h1,rfl,hq,hsz,p2,H',S⟩
end
end Go.Abs
