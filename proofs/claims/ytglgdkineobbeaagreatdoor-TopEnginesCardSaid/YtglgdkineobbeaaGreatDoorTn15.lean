/- Parts of the proof. -/
import Derived.Test.YtglgdkineobbeaaGreatDoorTn14
open Go.Region renaming binds->NS,wanted->Mz
open List renaming range->Ma
namespace Go.Abs
def Jy(acc:Array Nat)(o:Oper):Nat :=
 o.after.toList.foldl (λs e=>if NS .any e then s ||| 2^e.on ||| acc.getD e.on 0 else s) 0
def mr(ops:Array Oper):Array Nat:=ops.toList.foldl (λacc o=>acc.push (Jy acc o)) #[]
inductive Before (ops:Array Oper):Nat->Nat->Prop
 |edge {j:Nat} {o:Oper} {ed:Edge}:ops[j]?=some o->ed∈o.after->NS .any ed=true->Before ops ed.on j
 |more {i j:Nat} {o:Oper} {ed:Edge}:Before ops i ed.on->ops[j]?=some o->ed∈o.after->NS .any ed=true->Before ops i j
theorem wI(acc:Array Nat)(i:Nat):∀(es:List Edge) (s:Nat),(es.foldl (λs e=>if NS .any e then s ||| 2^e.on ||| acc.getD e.on 0 else s) s).testBit i=true ->
  s.testBit i=true\/∃e∈es,NS .any e=true/\(e.on=i\/(acc.getD e.on 0).testBit i=true)
 |[],s,h=>.inl h
 |e::es,s,h=>by
  simp only[N3] at h
  rcases wI acc i es _ h with h1|⟨e',m,q⟩
  .split at h1
   .rename_i hb;simp only[Nat.testBit_or,NX,RB,decide_eq_true_eq] at h1
    rcases h1 with (h1|h1) | h1
    .exact .inl h1
    .exact .inr ⟨e,by simp,hb,.inl h1⟩
    .exact .inr ⟨e,by simp,hb,.inr h1⟩
   .exact .inl h1
  .exact .inr ⟨e',by simp[m],q⟩
theorem yI(ops:Array Oper):∀(l:List Oper) (acc:Array Nat),(∀j,l[j]?=ops[acc.size+j]?)->(∀i j,(acc.getD j 0).testBit i=true->Before ops i j) ->
  ∀i j,((l.foldl (λacc o=>acc.push (Jy acc o)) acc).getD j 0).testBit i=true->Before ops i j
 |[],acc,_,h=>h
 |o::l,acc,hl,h=>by
  simp only[N3];refine yI ops l _ (λj=>by have:=hl (j+1);simpa[Nm,OQ 1 j] using this) ?_;intro i j hb;rw[LW,ME] at hb;split at hb
  .rename_i hj;subst hj
   have ho:ops[acc.size]?=some o:=by have:=hl 0;simpa using this.symm
   simp only[NI] at hb
   rcases wI acc i _ 0 hb with h0|⟨e,m,hbd,hon⟩
   .simp at h0
   .rcases hon with rfl|hon
    .exact .edge ho (by simpa using m) hbd
    .exact .more (h _ _ hon) ho (by simpa using m) hbd
  .exact h i j (by rw[LW];exact hb)
theorem dU{ops:Array Oper}{i j:Nat}(h:((mr ops).getD j 0).testBit i=true):Before ops i j :=
 yI ops ops.toList #[] (by simp) (by simp) i j h
def aW(o:Oper):Bool:=match cls o.op with | .eff | .call=>true|_=>false
def dp(o:Oper):Bool:=match cls o.op with | .read=>true|_=>false
def yR(o:Oper):Bool:=match cls o.op with | .new=>true|_=>false
def nms(ops:Array Oper)(o:Oper):List Tmp:=o.looksAt ops++o.dst.toList
def G4(ops:Array Oper)(M:Array Nat)(i j:Nat)(x y:Oper):Bool :=
 (M.getD j 0).testBit i ||
 ((match x.dst with|some d => !(nms ops y).contains d|none=>true)&&(match y.dst with|some d => !(nms ops x).contains d|none=>true) && !(aW x&&aW y))
def Ig(ops:Array Oper)(M:Array Nat):Bool :=
 (Ma ops.size).all λj=>(Ma j).all λi=>match ops[i]?,ops[j]? with
  |some x,some y=>G4 ops M i j x y
  |_,_=>true
def mf(ops:Array Oper):Bool :=
 (Ma ops.size).all λj=>match ops[j]? with
  |some o=>o.after.toList.all λe => !Region.binds .any e||decide (e.on<j)
  |none=>true
def fS(ops:Array Oper):Bool:=mf ops&&Ig ops (mr ops)
def eO(ops:Array Oper)(k:Nat):Bool :=
 (Ma ops.size).all λi=>match ops[i]? with
  |some x => !dp x||(decide (i<k)&&((mr ops).getD k 0).testBit i)||(decide (k<i)&&((mr ops).getD i 0).testBit k)
  |none=>true
def uY(ops:Array Oper)(k:Nat)(J:List Nat):Bool :=
 (Ma ops.size).all λi=>match ops[i]? with
  |some x => !dp x||(decide (i<k)&&((mr ops).getD k 0).testBit i)||(decide (k<i)&&((mr ops).getD i 0).testBit k) ||
   (decide (i<k)&&J.contains i&&match x.op with
    |.load _ (.tmp a)=>(Ma k).all λj=>decide (j<i)||match ops[j]? with
     |some y=>y.dst != some a
     |none=>true
    |_=>false)
  |none=>true
def oT(ops:Array Oper)(k:Nat)(e:Env)(h h1:Heap):Prop :=
 ∃J,uY ops k J=true/\∀i∈J,∀x t a,ops[i]?=some x->x.op=.load t (.tmp a)->∀g off,e.get a=.pointer (some ⟨g,off,none⟩)->h1.get g=h.get g
def jk(ops:Array Oper)(i:Nat):Bool :=
 (Ma ops.size).all λk=>match ops[k]? with
  |some x => !aW x||decide (k<=i)||((mr ops).getD k 0).testBit i
  |none=>true
theorem Before.lt{ops:Array Oper}(he:mf ops=true){i j:Nat}(h:Before ops i j):i<j:=by
 have key:∀{j:Nat} {o:Oper} {ed:Edge},ops[j]?=some o->ed∈o.after->NS .any ed=true->ed.on<j:=by
  intro j o ed ho hm hb;have hj:j<ops.size:=(L3.1 ho).1;have:=(Md.1 he) j (by simpa using hj);simp only[ho] at this;have:=(Md.1 this) ed (by simpa using hm);simpa[hb] using this
 induction h with
 |edge ho hm hb=>exact key ho hm hb
 |more _ ho hm hb ih=>exact RX ih (key ho hm hb)
theorem nj{ops:Array Oper}(h:fS ops=true){i j:Nat}{x y:Oper}(hij:i<j)(hx:ops[i]?=some x)(hy:ops[j]?=some y) :
  Before ops i j\/((∀d,x.dst=some d->d ∉ nms ops y)/\(∀d,y.dst=some d->d ∉ nms ops x)/\¬ (aW x=true/\aW y=true)):=by
 simp only[fS,L9] at h;have hj:j<ops.size:=(L3.1 hy).1;have h1:=(Md.1 h.2) j (by simpa using hj);have h2:=(Md.1 h1) i (by simpa using hij);simp only[hx,hy,G4,NX,L9] at h2
 rcases h2 with h2|⟨⟨h3,h4⟩,h5⟩
 .exact .inl (dU h2)
 .refine .inr ⟨λd hd=>?_,λd hd=>?_,λ⟨c1,c2⟩=>?_⟩
  .simp only[hd,Ox] at h3;intro m;rw[Ok.2 m] at h3
   cases h3
  .simp only[hd,Ox] at h4;intro m;rw[Ok.2 m] at h4
   cases h4
  .simp[c1,c2] at h5
theorem uj{ops:Array Oper}{k:Nat}(h:eO ops k=true){i:Nat}{x:Oper}(hx:ops[i]?=some x)(hr:dp x=true):(i<k/\Before ops i k)\/(k<i/\Before ops k i):=by
 have hi:i<ops.size:=(L3.1 hx).1;have h1:=(Md.1 h) i (by simpa using hi);simp only[hx,hr,QT,Qg,NX,L9,decide_eq_true_eq] at h1
 rcases h1 with⟨a,b⟩|⟨a,b⟩
 .exact .inl ⟨a,dU b⟩
 .exact .inr ⟨a,dU b⟩
theorem wq{ops:Array Oper}{k:Nat}{J:List Nat}(h:uY ops k J=true){i:Nat}{x:Oper}(hx:ops[i]?=some x)(hr:dp x=true):(i<k/\Before ops i k)\/(k<i/\Before ops k i) \/
  (i<k/\i∈J/\∃t a,x.op=.load t (.tmp a)/\∀j y,i<=j->j<k->ops[j]?=some y->y.dst≠some a):=by
 have hi:i<ops.size:=(L3.1 hx).1;have h1:=(Md.1 h) i (by simpa using hi);simp only[hx,hr,QT,Qg] at h1;rw[NX,NX,L9,L9,decide_eq_true_eq,decide_eq_true_eq] at h1
 rcases h1 with (⟨a,b⟩|⟨a,b⟩) | h1
 .exact .inl ⟨a,dU b⟩
 .exact .inr (.inl ⟨a,dU b⟩)
 .rw[L9,L9,decide_eq_true_eq,Ok] at h1;obtain⟨⟨h2,h3⟩,h4⟩:=h1;split at h4
  .rename_i t a ho;refine .inr (.inr ⟨h2,h3,t,a,ho,λj y g1 g2 g3=>?_⟩);have h5:=(Md.1 h4) j (by simpa using g2);simp only[g3,NX,decide_eq_true_eq,bne_iff_ne] at h5;exact h5.resolve_left (by omega)
  .cases h4
theorem BE{ops:Array Oper}{i:Nat}(h:jk ops i=true){k:Nat}{x:Oper}(hx:ops[k]?=some x)(hc:aW x=true)(hik:i<k):Before ops i k:=by
 have hk:k<ops.size:=(L3.1 hx).1;have h1:=(Md.1 h) k (by simpa using hk);simp only[hx,hc,QT,Qg,NX,decide_eq_true_eq] at h1
 rcases h1 with h1|h1
 .omega
 .exact dU h1
def Ext(h h':Heap):Prop:=h.size<=h'.size/\∀g,g<h.size->h'.get g=h.get g
theorem Ext.refl(h:Heap):Ext h h:=⟨LV _,λ_ _=>rfl⟩
theorem Ext.trans{h h1 h2:Heap}(a:Ext h h1)(b:Ext h1 h2):Ext h h2 :=
 ⟨Mf a.1 b.1,λg hg=>by rw[b.2 g (Mr hg a.1),a.2 g hg]⟩
def KR(P:Program)(N:Nat)(ops:Array Oper)(h0:Heap)(k:Nat)(o:Oper)(e:Env)(h:Heap)(v:Value)(h1:Heap):Prop :=
 OpD P N o e h v h1/\(aW o=true->eO ops k=true\/Ext h h1) /\
  (dp o=true->jk ops k=true\/plain v=true\/bp P e.eval o h0=some v)
def xN(P:Program)(N:Nat)(ops:Array Oper)(h0:Heap):List Oper->Nat->Env->Heap->Env->Heap->Prop
 |[],_,e,h,e',h'=>e'=e/\h'=h
 |o::r,k,e,h,e',h' =>
  if Mz o (aQ ops e) then ∃v h1,KR P N ops h0 k o e h v h1/\xN P N ops h0 r (k+1) (e.put o.dst v) h1 e' h'
  else xN P N ops h0 r (k+1) (e.put o.dst undef) h e' h'
def AM(P:Program)(N:Nat)(ops:Array Oper)(h0:Heap)(F:Bool)(k:Nat)(o:Oper)(e:Env)(h:Heap)(v:Value)(h1:Heap):Prop :=
 OpD P N o e h v h1/\(aW o=true->F=true\/eO ops k=true\/Ext h h1\/oT ops k e h h1) /\
  (dp o=true->(F=true->dj e.eval o=true)/\(F=true\/jk ops k=true\/plain v=true\/bp P e.eval o h0=some v))
def jR(P:Program)(N:Nat)(ops:Array Oper)(h0:Heap)(F:Bool):List Oper->Nat->Env->Heap->Env->Heap->Prop
 |[],_,e,h,e',h'=>e'=e/\h'=h
 |o::r,k,e,h,e',h' =>
  if Mz o (aQ ops e) then ∃v h1,AM P N ops h0 F k o e h v h1/\jR P N ops h0 F r (k+1) (e.put o.dst v) h1 e' h'
  else jR P N ops h0 F r (k+1) (e.put o.dst undef) h e' h'
theorem xN.toF{P:Program}{N:Nat}{ops:Array Oper}{h0:Heap}:∀{l:List Oper}{k:Nat}{e:Env}{h:Heap}{e':Env}{h':Heap},xN P N ops h0 l k e h e' h'->jR P N ops h0 false l k e h e' h'
 |[],_,_,_,_,_,hr=>hr
 |o::l,k,e,h,e',h',hr=>by
  unfold xN at hr;unfold jR;split at hr
  .rename_i hw;rw[if_pos hw];obtain⟨v,h1,⟨d1,d2,d3⟩,hr⟩:=hr;exact⟨v,h1,⟨d1,λq=>.inr ((d2 q).imp id .inl),λq=>⟨(λe=>by cases e),.inr (d3 q)⟩⟩,hr.toF⟩
  .rename_i hw;rw[if_neg hw];exact hr.toF
structure Txt (P:Program) (N:Nat) (ops:Array Oper) (h0:Heap) (F:Bool) (E:Nat->Env) (H:Nat->Heap) (V:Nat->Value):Prop where
 put:∀i o,ops[i]?=some o->E (i+1)=(E i).put o.dst (V i)
 yes:∀i o,ops[i]?=some o->Mz o (aQ ops (E i))=true->AM P N ops h0 F i o (E i) (H i) (V i) (H (i+1))
 no:∀i o,ops[i]?=some o->Mz o (aQ ops (E i))=false->V i=undef/\H (i+1)=H i
theorem jR.run{P:Program}{N:Nat}{ops:Array Oper}{h0:Heap}{F:Bool}:∀(l:List Oper) (k:Nat) (e:Env) (h:Heap) (e':Env) (h':Heap),jR P N ops h0 F l k e h e' h' ->
  ∃(E:Nat->Env) (H:Nat->Heap) (V:Nat->Value),E k=e/\H k=h/\E (k+l.length)=e'/\H (k+l.length)=h' /\
   ∀j o,l[j]?=some o->E (k+j+1)=(E (k+j)).put o.dst (V (k+j)) /\
    (Mz o (aQ ops (E (k+j)))=true->AM P N ops h0 F (k+j) o (E (k+j)) (H (k+j)) (V (k+j)) (H (k+j+1))) /\
    (Mz o (aQ ops (E (k+j)))=false->V (k+j)=undef/\H (k+j+1)=H (k+j))
 |[],k,e,h,e',h',hr=>by
  obtain⟨rfl,rfl⟩:=hr;exact⟨λ_=>e',λ_=>h',λ_=>undef,rfl,rfl,rfl,rfl,by simp⟩
 |o::l,k,e,h,e',h',hr=>by
  unfold jR at hr;have go:∀(v:Value) (h1:Heap),jR P N ops h0 F l (k+1) (e.put o.dst v) h1 e' h' ->
    ((Mz o (aQ ops e)=true->AM P N ops h0 F k o e h v h1)/\(Mz o (aQ ops e)=false->v=undef/\h1=h)) ->
    ∃(E:Nat->Env) (H:Nat->Heap) (V:Nat->Value),E k=e/\H k=h/\E (k+(o::l).length)=e'/\H (k+(o::l).length)=h' /\
      ∀j x,(o::l)[j]?=some x->E (k+j+1)=(E (k+j)).put x.dst (V (k+j)) /\
       (Mz x (aQ ops (E (k+j)))=true->AM P N ops h0 F (k+j) x (E (k+j)) (H (k+j)) (V (k+j)) (H (k+j+1))) /\
       (Mz x (aQ ops (E (k+j)))=false->V (k+j)=undef/\H (k+j+1)=H (k+j)):=by
   intro v h1 hr hd;obtain⟨E,H,V,e1,e2,e3,e4,e5⟩:=jR.run l (k+1) _ _ e' h' hr;refine⟨λi=>if i=k then e else E i,λi=>if i=k then h else H i,λi=>if i=k then v else V i,by simp,by simp,?_,?_,?_⟩
   .have:¬ k+(o::l).length=k:=by simp
    simp only[this,if_false];rw[<- e3];congr 1;simp;omega
   .have:¬ k+(o::l).length=k:=by simp
    simp only[this,if_false];rw[<- e4];congr 1;simp;omega
   .intro j x hx
    cases j with
    | zero =>
      simp only[My,LR] at hx;subst hx
      have:¬ k+1=k:=by omega
      simp only[OP,if_true,this,if_false,e1,e2];exact⟨trivial,hd.1,hd.2⟩
    | succ j =>
      have q:=e5 j x (by simpa using hx)
      have n1:¬ k+(j+1)=k:=by omega
      have n2:¬ k+(j+1)+1=k:=by omega
      have n3:k+1+j=k+(j+1):=by omega
      simp only[n1,n2,if_false];rw[n3] at q;exact q
  split at hr
  .rename_i hw;obtain⟨v,h1,hd,hr⟩:=hr;exact go v h1 hr ⟨λ_=>hd,λhf=>(by rw[hw] at hf;cases hf)⟩
  .rename_i hw;exact go undef h hr ⟨λht=>absurd ht hw,λ_=>⟨rfl,rfl⟩⟩
theorem jR.txt{P:Program}{N:Nat}{ops:Array Oper}{F:Bool}{e e':Env}{h h':Heap}(hr:jR P N ops h F ops.toList 0 e h e' h') :
  ∃E H V,Txt P N ops h F E H V/\E 0=e/\H 0=h/\E ops.size=e'/\H ops.size=h':=by
 obtain⟨E,H,V,e1,e2,e3,e4,e5⟩:=jR.run _ _ _ _ _ _ hr;refine⟨E,H,V,⟨λi o ho=>?_,λi o ho=>?_,λi o ho=>?_⟩,e1,e2,by simpa using e3,by simpa using e4⟩
 .have:=(e5 i o (by simpa using ho)).1;simpa using this
 .have:=(e5 i o (by simpa using ho)).2.1;simpa using this
 .have:=(e5 i o (by simpa using ho)).2.2;simpa using this
end Go.Abs
