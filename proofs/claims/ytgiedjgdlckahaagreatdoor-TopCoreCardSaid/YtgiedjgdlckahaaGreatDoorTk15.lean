/-
  AbsN: parts of the proof.
-/
import Derived.Test.YtgiedjgdlckahaaGreatDoorTk14
namespace Go.Abs
def H6 (acc:Array Nat) (o:Oper):Nat :=
 o.after.toList.foldl (fun s e=>if Region.binds .any e then s ||| 2 ^ e.on ||| acc.getD e.on 0 else s) 0
def oK (ops:Array Oper):Array Nat:=ops.toList.foldl (fun acc o=>acc.push (H6 acc o)) #[]
inductive Before (ops:Array Oper):Nat->Nat->Prop
 |edge {j:Nat} {o:Oper} {ed:Edge}:ops[j]?=some o->ed∈o.after->Region.binds .any ed=true->Before ops ed.on j
 |more {i j:Nat} {o:Oper} {ed:Edge}:Before ops i ed.on->ops[j]?=some o->ed∈o.after->Region.binds .any ed=true->Before ops i j
theorem uS (acc:Array Nat) (i:Nat):∀ (es:List Edge) (s:Nat),(es.foldl (fun s e=>if Region.binds .any e then s ||| 2 ^ e.on ||| acc.getD e.on 0 else s) s).testBit i=true ->
  s.testBit i=true\/∃ e∈es,Region.binds .any e=true/\(e.on=i\/(acc.getD e.on 0).testBit i=true)
 |[],s,h=>.inl h
 |e::es,s,h=>by
  simp only[List.foldl_cons] at h
  rcases uS acc i es _ h with h1|⟨e',m,q⟩
  ·split at h1
   ·rename_i hb;simp only[Nat.testBit_or,Bool.or_eq_true,Nat.testBit_two_pow,decide_eq_true_eq] at h1
    rcases h1 with (h1|h1) | h1
    ·exact .inl h1
    ·exact .inr ⟨e,by simp,hb,.inl h1⟩
    ·exact .inr ⟨e,by simp,hb,.inr h1⟩
   ·exact .inl h1
  ·exact .inr ⟨e',by simp[m],q⟩
theorem xk (ops:Array Oper):∀ (l:List Oper) (acc:Array Nat),(∀ j,l[j]?=ops[acc.size+j]?)->(∀ i j,(acc.getD j 0).testBit i=true->Before ops i j) ->
  ∀ i j,((l.foldl (fun acc o=>acc.push (H6 acc o)) acc).getD j 0).testBit i=true->Before ops i j
 |[],acc,_,h=>h
 |o::l,acc,hl,h=>by
  simp only[List.foldl_cons];refine xk ops l _ (fun j=>by have:=hl (j+1);simpa[Nat.add_assoc,Nat.add_comm 1 j] using this) ?_;intro i j hb;rw[Array.getD_eq_getD_getElem?,Array.getElem?_push] at hb;split at hb
  ·rename_i hj;subst hj
   have ho:ops[acc.size]?=some o:=by have:=hl 0;simpa using this.symm
   simp only[Option.getD_some] at hb
   rcases uS acc i _ 0 hb with h0|⟨e,m,hbd,hon⟩
   ·simp at h0
   ·rcases hon with rfl|hon
    ·exact .edge ho (by simpa using m) hbd
    ·exact .more (h _ _ hon) ho (by simpa using m) hbd
  ·exact h i j (by rw[Array.getD_eq_getD_getElem?];exact hb)
theorem eS {ops:Array Oper}{i j:Nat} (h:((oK ops).getD j 0).testBit i=true):Before ops i j :=
 xk ops ops.toList #[] (by simp) (by simp) i j h
def isChain (o:Oper):Bool:=match cls o.op with | .eff | .call=>true|_=>false
def cG (o:Oper):Bool:=match cls o.op with | .read=>true|_=>false
def wM (o:Oper):Bool:=match cls o.op with | .new=>true|_=>false
def nms (ops:Array Oper) (o:Oper):List Tmp:=o.looksAt ops++o.dst.toList
def Fi (ops:Array Oper) (M:Array Nat) (i j:Nat) (x y:Oper):Bool :=
 (M.getD j 0).testBit i ||
 ((match x.dst with|some d => !(nms ops y).contains d|none=>true)&&(match y.dst with|some d => !(nms ops x).contains d|none=>true) && !(isChain x&&isChain y))
def Hz (ops:Array Oper) (M:Array Nat):Bool :=
 (List.range ops.size).all fun j=>(List.range j).all fun i=>match ops[i]?,ops[j]? with
  |some x,some y=>Fi ops M i j x y
  |_,_=>true
def sY (ops:Array Oper):Bool :=
 (List.range ops.size).all fun j=>match ops[j]? with
  |some o=>o.after.toList.all fun e => !Region.binds .any e||decide (e.on<j)
  |none=>true
def eE (ops:Array Oper):Bool:=sY ops&&Hz ops (oK ops)
def dD (ops:Array Oper) (k:Nat):Bool :=
 (List.range ops.size).all fun i=>match ops[i]? with
  |some x => !cG x||(decide (i<k)&&((oK ops).getD k 0).testBit i)||(decide (k<i)&&((oK ops).getD i 0).testBit k)
  |none=>true
def sV (ops:Array Oper) (k:Nat) (J:List Nat):Bool :=
 (List.range ops.size).all fun i=>match ops[i]? with
  |some x => !cG x||(decide (i<k)&&((oK ops).getD k 0).testBit i)||(decide (k<i)&&((oK ops).getD i 0).testBit k) ||
   (decide (i<k)&&J.contains i&&match x.op with
    |.load _ (.tmp a)=>(List.range k).all fun j=>decide (j<i)||match ops[j]? with
     |some y=>y.dst != some a
     |none=>true
    |_=>false)
  |none=>true
def mW (ops:Array Oper) (k:Nat) (e:Env) (h h1:Heap):Prop :=
 ∃ J,sV ops k J=true/\∀ i∈J,∀ x t a,ops[i]?=some x->x.op=.load t (.tmp a)->∀ g off,e.get a=.pointer (some ⟨g,off,none⟩)->h1.get g=h.get g
def gN (ops:Array Oper) (i:Nat):Bool :=
 (List.range ops.size).all fun k=>match ops[k]? with
  |some x => !isChain x||decide (k<=i)||((oK ops).getD k 0).testBit i
  |none=>true
theorem Before.lt {ops:Array Oper} (he:sY ops=true) {i j:Nat} (h:Before ops i j):i<j:=by
 have key:∀ {j:Nat} {o:Oper} {ed:Edge},ops[j]?=some o->ed∈o.after->Region.binds .any ed=true->ed.on<j:=by
  intro j o ed ho hm hb;have hj:j<ops.size:=(Array.getElem?_eq_some_iff.1 ho).1;have:=(List.all_eq_true.1 he) j (by simpa using hj);simp only[ho] at this;have:=(List.all_eq_true.1 this) ed (by simpa using hm);simpa[hb] using this
 induction h with
 |edge ho hm hb=>exact key ho hm hb
 |more _ ho hm hb ih=>exact Nat.lt_trans ih (key ho hm hb)
theorem lU {ops:Array Oper} (h:eE ops=true) {i j:Nat}{x y:Oper} (hij:i<j) (hx:ops[i]?=some x) (hy:ops[j]?=some y) :
  Before ops i j\/((∀ d,x.dst=some d->d ∉ nms ops y)/\(∀ d,y.dst=some d->d ∉ nms ops x)/\¬ (isChain x=true/\isChain y=true)):=by
 simp only[eE,Bool.and_eq_true] at h;have hj:j<ops.size:=(Array.getElem?_eq_some_iff.1 hy).1;have h1:=(List.all_eq_true.1 h.2) j (by simpa using hj);have h2:=(List.all_eq_true.1 h1) i (by simpa using hij);simp only[hx,hy,Fi,Bool.or_eq_true,Bool.and_eq_true] at h2
 rcases h2 with h2|⟨⟨h3,h4⟩,h5⟩
 ·exact .inl (eS h2)
 ·refine .inr ⟨fun d hd=>?_,fun d hd=>?_,fun ⟨c1,c2⟩=>?_⟩
  ·simp only[hd,Bool.not_eq_true'] at h3;intro m;rw[List.contains_iff_mem.2 m] at h3
   cases h3
  ·simp only[hd,Bool.not_eq_true'] at h4;intro m;rw[List.contains_iff_mem.2 m] at h4
   cases h4
  ·simp[c1,c2] at h5
theorem se {ops:Array Oper}{k:Nat} (h:dD ops k=true) {i:Nat}{x:Oper} (hx:ops[i]?=some x) (hr:cG x=true):(i<k/\Before ops i k)\/(k<i/\Before ops k i):=by
 have hi:i<ops.size:=(Array.getElem?_eq_some_iff.1 hx).1;have h1:=(List.all_eq_true.1 h) i (by simpa using hi);simp only[hx,hr,Bool.not_true,Bool.false_or,Bool.or_eq_true,Bool.and_eq_true,decide_eq_true_eq] at h1
 rcases h1 with⟨a,b⟩|⟨a,b⟩
 ·exact .inl ⟨a,eS b⟩
 ·exact .inr ⟨a,eS b⟩
theorem ug {ops:Array Oper}{k:Nat}{J:List Nat} (h:sV ops k J=true) {i:Nat}{x:Oper} (hx:ops[i]?=some x) (hr:cG x=true):(i<k/\Before ops i k)\/(k<i/\Before ops k i) \/
  (i<k/\i∈J/\∃ t a,x.op=.load t (.tmp a)/\∀ j y,i<=j->j<k->ops[j]?=some y->y.dst≠some a):=by
 have hi:i<ops.size:=(Array.getElem?_eq_some_iff.1 hx).1;have h1:=(List.all_eq_true.1 h) i (by simpa using hi);simp only[hx,hr,Bool.not_true,Bool.false_or] at h1;rw[Bool.or_eq_true,Bool.or_eq_true,Bool.and_eq_true,Bool.and_eq_true,decide_eq_true_eq,decide_eq_true_eq] at h1
 rcases h1 with (⟨a,b⟩|⟨a,b⟩) | h1
 ·exact .inl ⟨a,eS b⟩
 ·exact .inr (.inl ⟨a,eS b⟩)
 ·rw[Bool.and_eq_true,Bool.and_eq_true,decide_eq_true_eq,List.contains_iff_mem] at h1;obtain⟨⟨h2,h3⟩,h4⟩:=h1;split at h4
  ·rename_i t a ho;refine .inr (.inr ⟨h2,h3,t,a,ho,fun j y g1 g2 g3=>?_⟩);have h5:=(List.all_eq_true.1 h4) j (by simpa using g2);simp only[g3,Bool.or_eq_true,decide_eq_true_eq,bne_iff_ne] at h5;exact h5.resolve_left (by omega)
  ·cases h4
theorem yV {ops:Array Oper}{i:Nat} (h:gN ops i=true) {k:Nat}{x:Oper} (hx:ops[k]?=some x) (hc:isChain x=true) (hik:i<k):Before ops i k:=by
 have hk:k<ops.size:=(Array.getElem?_eq_some_iff.1 hx).1;have h1:=(List.all_eq_true.1 h) k (by simpa using hk);simp only[hx,hc,Bool.not_true,Bool.false_or,Bool.or_eq_true,decide_eq_true_eq] at h1
 rcases h1 with h1|h1
 ·omega
 ·exact eS h1
def Ext (h h':Heap):Prop:=h.size<=h'.size/\∀ g,g<h.size->h'.get g=h.get g
theorem Ext.refl (h:Heap):Ext h h:=⟨Nat.le_refl _,fun _ _=>rfl⟩
theorem Ext.trans {h h1 h2:Heap} (a:Ext h h1) (b:Ext h1 h2):Ext h h2 :=
 ⟨Nat.le_trans a.1 b.1,fun g hg=>by rw[b.2 g (Nat.lt_of_lt_of_le hg a.1),a.2 g hg]⟩
def JW (P:Program) (N:Nat) (ops:Array Oper) (h0:Heap) (k:Nat) (o:Oper) (e:Env) (h:Heap) (v:Value) (h1:Heap):Prop :=
 OpD P N o e h v h1/\(isChain o=true->dD ops k=true\/Ext h h1) /\
  (cG o=true->gN ops k=true\/plain v=true\/aT P e.eval o h0=some v)
def RegX (P:Program) (N:Nat) (ops:Array Oper) (h0:Heap):List Oper->Nat->Env->Heap->Env->Heap->Prop
 |[],_,e,h,e',h'=>e'=e/\h'=h
 |o::r,k,e,h,e',h' =>
  if Region.wanted o (ayielded ops e) then ∃ v h1,JW P N ops h0 k o e h v h1/\RegX P N ops h0 r (k+1) (e.put o.dst v) h1 e' h'
  else RegX P N ops h0 r (k+1) (e.put o.dst undef) h e' h'
def DrawF (P:Program) (N:Nat) (ops:Array Oper) (h0:Heap) (F:Bool) (k:Nat) (o:Oper) (e:Env) (h:Heap) (v:Value) (h1:Heap):Prop :=
 OpD P N o e h v h1/\(isChain o=true->F=true\/dD ops k=true\/Ext h h1\/mW ops k e h h1) /\
  (cG o=true->(F=true->cA e.eval o=true)/\(F=true\/gN ops k=true\/plain v=true\/aT P e.eval o h0=some v))
def RegF (P:Program) (N:Nat) (ops:Array Oper) (h0:Heap) (F:Bool):List Oper->Nat->Env->Heap->Env->Heap->Prop
 |[],_,e,h,e',h'=>e'=e/\h'=h
 |o::r,k,e,h,e',h' =>
  if Region.wanted o (ayielded ops e) then ∃ v h1,DrawF P N ops h0 F k o e h v h1/\RegF P N ops h0 F r (k+1) (e.put o.dst v) h1 e' h'
  else RegF P N ops h0 F r (k+1) (e.put o.dst undef) h e' h'
theorem RegX.toF {P:Program}{N:Nat}{ops:Array Oper}{h0:Heap}:∀ {l:List Oper}{k:Nat}{e:Env}{h:Heap}{e':Env}{h':Heap},RegX P N ops h0 l k e h e' h'->RegF P N ops h0 false l k e h e' h'
 |[],_,_,_,_,_,hr=>hr
 |o::l,k,e,h,e',h',hr=>by
  unfold RegX at hr;unfold RegF;split at hr
  ·rename_i hw;rw[if_pos hw];obtain⟨v,h1,⟨d1,d2,d3⟩,hr⟩:=hr;exact⟨v,h1,⟨d1,fun q=>.inr ((d2 q).imp id .inl),fun q=>⟨(fun e=>by cases e),.inr (d3 q)⟩⟩,hr.toF⟩
  ·rename_i hw;rw[if_neg hw];exact hr.toF
structure Txt (P:Program) (N:Nat) (ops:Array Oper) (h0:Heap) (F:Bool) (E:Nat->Env) (H:Nat->Heap) (V:Nat->Value):Prop where
 put:∀ i o,ops[i]?=some o->E (i+1)=(E i).put o.dst (V i)
 yes:∀ i o,ops[i]?=some o->Region.wanted o (ayielded ops (E i))=true->DrawF P N ops h0 F i o (E i) (H i) (V i) (H (i+1))
 no:∀ i o,ops[i]?=some o->Region.wanted o (ayielded ops (E i))=false->V i=undef/\H (i+1)=H i
theorem RegF.run {P:Program}{N:Nat}{ops:Array Oper}{h0:Heap}{F:Bool}:∀ (l:List Oper) (k:Nat) (e:Env) (h:Heap) (e':Env) (h':Heap),RegF P N ops h0 F l k e h e' h' ->
  ∃ (E:Nat->Env) (H:Nat->Heap) (V:Nat->Value),E k=e/\H k=h/\E (k+l.length)=e'/\H (k+l.length)=h' /\
   ∀ j o,l[j]?=some o->E (k+j+1)=(E (k+j)).put o.dst (V (k+j)) /\
    (Region.wanted o (ayielded ops (E (k+j)))=true->DrawF P N ops h0 F (k+j) o (E (k+j)) (H (k+j)) (V (k+j)) (H (k+j+1))) /\
    (Region.wanted o (ayielded ops (E (k+j)))=false->V (k+j)=undef/\H (k+j+1)=H (k+j))
 |[],k,e,h,e',h',hr=>by
  obtain⟨rfl,rfl⟩:=hr;exact⟨fun _=>e',fun _=>h',fun _=>undef,rfl,rfl,rfl,rfl,by simp⟩
 |o::l,k,e,h,e',h',hr=>by
  unfold RegF at hr;have go:∀ (v:Value) (h1:Heap),RegF P N ops h0 F l (k+1) (e.put o.dst v) h1 e' h' ->
    ((Region.wanted o (ayielded ops e)=true->DrawF P N ops h0 F k o e h v h1)/\(Region.wanted o (ayielded ops e)=false->v=undef/\h1=h)) ->
    ∃ (E:Nat->Env) (H:Nat->Heap) (V:Nat->Value),E k=e/\H k=h/\E (k+(o::l).length)=e'/\H (k+(o::l).length)=h' /\
      ∀ j x,(o::l)[j]?=some x->E (k+j+1)=(E (k+j)).put x.dst (V (k+j)) /\
       (Region.wanted x (ayielded ops (E (k+j)))=true->DrawF P N ops h0 F (k+j) x (E (k+j)) (H (k+j)) (V (k+j)) (H (k+j+1))) /\
       (Region.wanted x (ayielded ops (E (k+j)))=false->V (k+j)=undef/\H (k+j+1)=H (k+j)):=by
   intro v h1 hr hd;obtain⟨E,H,V,e1,e2,e3,e4,e5⟩:=RegF.run l (k+1) _ _ e' h' hr;refine⟨fun i=>if i=k then e else E i,fun i=>if i=k then h else H i,fun i=>if i=k then v else V i,by simp,by simp,?_,?_,?_⟩
   ·have:¬ k+(o::l).length=k:=by simp
    simp only[this,if_false];rw[<- e3];congr 1;simp;omega
   ·have:¬ k+(o::l).length=k:=by simp
    simp only[this,if_false];rw[<- e4];congr 1;simp;omega
   ·intro j x hx
    cases j with
    | zero =>
      simp only[List.getElem?_cons_zero,Option.some.injEq] at hx;subst hx
      have:¬ k+1=k:=by omega
      simp only[Nat.add_zero,if_true,this,if_false,e1,e2];exact⟨trivial,hd.1,hd.2⟩
    | succ j =>
      have q:=e5 j x (by simpa using hx)
      have n1:¬ k+(j+1)=k:=by omega
      have n2:¬ k+(j+1)+1=k:=by omega
      have n3:k+1+j=k+(j+1):=by omega
      simp only[n1,n2,if_false];rw[n3] at q;exact q
  split at hr
  ·rename_i hw;obtain⟨v,h1,hd,hr⟩:=hr;exact go v h1 hr ⟨fun _=>hd,fun hf=>(by rw[hw] at hf;cases hf)⟩
  ·rename_i hw;exact go undef h hr ⟨fun ht=>absurd ht hw,fun _=>⟨rfl,rfl⟩⟩
theorem RegF.txt {P:Program}{N:Nat}{ops:Array Oper}{F:Bool}{e e':Env}{h h':Heap} (hr:RegF P N ops h F ops.toList 0 e h e' h') :
  ∃ E H V,Txt P N ops h F E H V/\E 0=e/\H 0=h/\E ops.size=e'/\H ops.size=h':=by
 obtain⟨E,H,V,e1,e2,e3,e4,e5⟩:=RegF.run _ _ _ _ _ _ hr;refine⟨E,H,V,⟨fun i o ho=>?_,fun i o ho=>?_,fun i o ho=>?_⟩,e1,e2,by simpa using e3,by simpa using e4⟩
 ·have:=(e5 i o (by simpa using ho)).1;simpa using this
 ·have:=(e5 i o (by simpa using ho)).2.1;simpa using this
 ·have:=(e5 i o (by simpa using ho)).2.2;simpa using this
end Go.Abs
