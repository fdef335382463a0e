/-
  AbsXq: parts of the proof.
-/
import Derived.Test.YtgiedjgdlckahaaGreatDoorTk27
namespace Go.Abs
def an {α:Type} (first:(α->Prop)->Prop) (rest:α->Prop):Prop:=first rest
def Ag {S:Type} (body:S->(S->Prop)->Prop):Nat->S->Prop
 |0,_=>False
 |n+1,s=>body s (Ag body n)
def aF {S:Type} (body:S->(S->Prop)->Prop) (s:S):Prop:=∃ n,Ag body n s
theorem bo {S:Type}{body:S->(S->Prop)->Prop} (Inv:S->Prop) (μ:S->Nat) (step:∀ s next,Inv s->(∀ s',Inv s'->μ s'<μ s->next s')->body s next) {s:S} (h:Inv s):aF body s:=by
 have key:∀ n s,Inv s->μ s<n->Ag body n s:=by
  intro n
  induction n with
  |zero=>intro s _ h;omega
  |succ n ih=>exact fun s hI hn=>step s _ hI fun s' h1 h2=>ih s' h1 (by omega)
 exact⟨μ s+1,key _ s h (Nat.lt_succ_self _)⟩
theorem aA {α S:Type}{body:(α->Prop)->S->(S->Prop)->Prop}{rest:α->Prop} (Inv:S->Prop) (μ:S->Nat) (Post:α->Prop)
  (step:∀ k s next,Inv s->(∀ s',Inv s'->μ s'<μ s->next s')->(∀ a,Post a->k a)->body k s next) {s0:S} (h0:Inv s0) (hrest:∀ a,Post a->rest a) :
  an (fun k=>aF (fun s next=>body k s next) s0) rest :=
 bo Inv μ (fun s next hI hn=>step rest s next hI hn hrest) h0
section
variable {P:Program} {N:Nat}
def jL (h:Heap):List (Nat×Value)->Env->Prop
 |[],_=>True
 |(i,v)::r,e=>VLe h (e.get i) v/\jL h r e
theorem oJ {h:Heap}:∀ {l:List (Nat×Value)}{e:Env},jL h l e->∀ t,VLe h (e.get t) ((⟨e.n,eA l,e.get⟩:Env).get t)
 |[],_,_,_=>VLe.refl _ _
 |(i,v)::r,e,hk,t=>by
  have e1:(⟨e.n,eA ((i,v)::r),e.get⟩:Env)=(⟨e.n,eA r,e.get⟩:Env).set i v:=rfl;rw[e1,Env.dq];by_cases c:t=i
  ·rw[if_pos c,c];exact hk.1
  ·rw[if_neg c];exact oJ hk.2 t
theorem CodeD.H4 {c:Code}{e e':Env}{h h1:Heap}{ex:Exit}{e1:Env} (hn:e'.n=e.n) (hv:∀ t,VLe h (e.get t) (e'.get t)) (hc:CodeD P N c e' h ex e1 h1):CodeD P N c e h ex e1 h1 :=
 ⟨⟨hc.1.1,hc.1.2.trans hn⟩,fun ι w a H r=>hc.2 ι w a H ⟨r.defers,by rw[hn];exact r.size,fun t ht=>hv t N ι w _ H (r.get t (by rw[<- hn];exact ht))⟩⟩
theorem IA (hM:P.follows .mixedOrders=true) {c:Code}{nn:Nat} (hok:codeOk N nn c=true) {σ:Type} (I:σ->Heap->Prop) (env:σ->List (Nat×Value)) (μ:σ->Nat) {e:Env}{h:Heap}{K:X->Env->Heap->Prop} (hn:e.n=nn)
  (start:∃ s,I s h/\jL h (env s) e)
  (round:∀ s base h,I s h->ff (eA (env s)) fun t=>CodeS P N c ⟨nn,t,base⟩ h fun x e1 h1=>match x with
   |.normal=>∃ s',μ s'<μ s/\I s' h1/\jL h1 (env s') e1
   |.exit id=>K (.exit id) e1 h1
   |.ret=>K .ret e1 h1):tZ P N c e h K:=by
 have key:∀ (m:Nat) (s:σ) (e:Env) (h:Heap),μ s=m->e.n=nn->I s h->jL h (env s) e->∃ k x e1 h1,ic P N c k e h (X.toExit x) e1 h1/\K x e1 h1:=by
  intro m
  induction m using Nat.strongRecOn with
  |_ m ih =>
   intro s e h hm he hI hh;obtain⟨x,e1,h1,c1,hk⟩:=((cr _ _).1 (round s e.get h hI)).spec hM hok;have c2:CodeD P N c e h (X.toExit x) e1 h1:=c1.H4 (e':=⟨nn,eA (env s),e.get⟩) he.symm (fun t=>by have:=oJ hh t;rw[he] at this;exact this)
   cases x with
   |normal =>
    obtain⟨s',hlt,hI',hh'⟩:=hk;obtain⟨k,x,e2,h2,l2,hk⟩:=ih (μ s') (hm ▸ hlt) s' e1 h1 rfl (c2.1.2.trans he) hI' hh';exact⟨k+1,x,e2,h2,ic.more c2 l2,hk⟩
   |exit id=>exact⟨1,.exit id,e1,h1,ic.last c2 (by simp[X.toExit]),hk⟩
   |ret=>exact⟨1,.ret,e1,h1,ic.last c2 (by simp[X.toExit]),hk⟩
 obtain⟨s,hI,hh⟩:=start;obtain⟨k,x,e1,h1,l1,hk⟩:=key (μ s) s e h rfl hn hI hh;exact⟨x,e1,h1,CodeD.loop l1,hk⟩
theorem I2 (hM:P.follows .mixedOrders=true) {c:Code}{nn:Nat} (hok:codeOk N nn c=true) {S σ:Type}{body:S->(S->Prop)->Prop} (π:σ->S) (I:σ->Heap->Prop) (env:σ->List (Nat×Value)) {e:Env}{h:Heap}{K:X->Env->Heap->Prop} (hn:e.n=nn)
  (s0:σ) (hm:aF body (π s0)) (start:I s0 h) (hs:jL h (env s0) e)
  (round:∀ s next base h,body (π s) next->I s h->ff (eA (env s)) fun t=>CodeS P N c ⟨nn,t,base⟩ h fun x e1 h1=>match x with
   |.normal=>∃ s',next (π s')/\I s' h1/\jL h1 (env s') e1
   |.exit id=>K (.exit id) e1 h1
   |.ret=>K .ret e1 h1):tZ P N c e h K:=by
 obtain⟨n,hm⟩:=hm;refine IA hM hok (σ:=Nat×σ) (fun q h=>Ag body q.1 (π q.2)/\I q.2 h) (fun q=>env q.2) (fun q=>q.1) hn ⟨(n,s0),⟨hm,start⟩,hs⟩ ?_;rintro⟨n,s⟩ base h ⟨hm,hI⟩
 cases n with
 |zero=>exact False.elim hm
 |succ n =>
  rw[cr];refine⟨fun a b=>?_⟩;obtain⟨x,e1,h1,c1,hk⟩:=((cr _ _).1 (round s _ base h hm hI)).spec a b;refine⟨x,e1,h1,c1,?_⟩
  cases x with
  |normal =>
   obtain⟨s',m',i,hh⟩:=hk;exact⟨(n,s'),Nat.lt_succ_self n,⟨m',i⟩,hh⟩
  |exit id=>exact hk
  |ret=>exact hk
theorem CodeS.Iz {a b:Code}{nn:Nat}{α σ:Type}{first:(α->Prop)->Prop}{rest:α->Prop} (hm:an first rest) (π:σ->α) (I:σ->Heap->Prop) (env:σ->List (Nat×Value)) {e:Env}{h:Heap}{K:X->Env->Heap->Prop} (hn:e.n=nn)
  (hfirst:first rest->CodeS P N a e h fun x e1 h1=>match x with
   |.normal=>∃ s,rest (π s)/\I s h1/\jL h1 (env s) e1
   |.exit id=>K (.exit id) e1 h1
   |.ret=>K .ret e1 h1)
  (hrest:∀ s base h1,rest (π s)->I s h1->ff (eA (env s)) fun t=>CodeS P N b ⟨nn,t,base⟩ h1 K):CodeS P N (.seq a b) e h K:=by
 refine⟨fun hM hok=>?_⟩;have hok':=hok;simp only[codeOk,Bool.and_eq_true] at hok';obtain⟨x,e1,h1,c1,hk⟩:=(hfirst hm).spec hM hok'.1
 cases x with
 |normal =>
  obtain⟨s,hr,hI,hh⟩:=hk;have he:e1.n=nn:=c1.1.2.trans hn;obtain⟨x,e2,h2,c2,hk⟩:=((cr _ _).1 (hrest s e1.get h1 hr hI)).spec hM (by show codeOk N nn b=true;rw[<- hn];exact hok'.2);have c3:CodeD P N b e1 h1 (X.toExit x) e2 h2:=c2.H4 (e':=⟨nn,eA (env s),e1.get⟩) he.symm (fun t=>by have:=oJ hh t;rw[he] at this;exact this);exact⟨x,e2,h2,CodeD.seq c1 c3,hk⟩
 |exit id=>exact⟨.exit id,e1,h1,CodeD.mO c1 (by simp[X.toExit]),hk⟩
 |ret=>exact⟨.ret,e1,h1,CodeD.mO c1 (by simp[X.toExit]),hk⟩
theorem fnW (hM:P.follows .mixedOrders=true) {B:List AObj}{f:FuncId}{fn:Func}{c:Code} (hf:P.funcs[f]?=some fn) (hb:fn.body=some c) (ho:jU N fn=true) {vs:Array Value} (hs:vs.size<=fn.ntmps) {h:Heap} (hB:HasB B h)
  {R:Type} {enc:R->Value} (hp:∀ r,PureV (enc r)) {K:R->Prop}
  (hk:Own B h [] h->CodeS P N c (dN fn.ntmps vs) h fun x e1 h1=>match x with
   |.exit _=>False
   |_=>qq P e1 h1 fn.results.toList fun vs=>∃ r,K r/\Ext h h1/\∀ h2,Frozen h.size h1 h2->VLe h2 (xI vs) (enc r)):∃ r,K r/\CallD P N f vs h (enc r) h:=by
 obtain⟨v,h',c1,r,hK,e,q⟩:=fnG hM hf hb ho hs (Q:=fun v h1=>∃ r,K r/\Ext h h1/\∀ h2,Frozen h.size h1 h2->VLe h2 v (enc r)) (hk (Own.start hB));exact⟨r,hK,c1.values e (hp r) q (pR hf hb ho).1⟩
theorem FnV.sO {B:List AObj}{f:FuncId}{vs:Array Value}{R:Type}{enc:R->Value}{r:R} (hp:PureV (enc r)) (hw:∀ h,HasB B h->∃ r',r'=r/\CallD P N f vs h (enc r') h):FnV P N B f vs (enc r) :=
 ⟨hp,fun h hB=>by obtain⟨r',rfl,c⟩:=hw h hB;exact c⟩
theorem FnV.walk {B:List AObj}{f:FuncId}{vs:Array Value}{R:Type}{enc:R->Value}{r:R} (F:FnV P N B f vs (enc r)) {K:R->Prop} (hm:K r) {h:Heap} (hB:HasB B h):∃ r,K r/\CallD P N f vs h (enc r) h:=⟨r,hm,F.call h hB⟩
end
def isLen (o:Op):Bool:=match o with
 |.call { callee:=.builtin .len,.. }=>true
 |.binOp op _ _ y _=>match y with
  |.const (.slice none _ _)=>match op with
   |.eql | .neq=>true
   |_=>false
  |_=>false
 |_=>false
theorem dj {o:Op} (h:isLen o=true):cls o=.pure:=by
 unfold isLen at h;split at h
 ·rfl
 ·rfl
 ·cases h
def tF (P:Program) (N:Nat) (ops:Array Oper) (l:List Oper) (k:Nat) (e:Env) (h:Heap) (K:Env->Heap->Prop):Prop :=
 match l with
 |[]=>K e h
 |o::r=>match Region.wanted o (ayielded ops e) with
  |true=>match isLen o.op with
   |true=>match sJ P o.op with
    |true=>opE P N o e h fun v h=>nV (dI ops k) e o.dst v fun e=>RegS P N ops r (k+1) e h K
    |false=>∃ v,aq P e.eval o=some v/\nV (dI ops k) e o.dst v fun e=>RegS P N ops r (k+1) e h K
   |false=>opE P N o e h fun v h=>nV (dI ops k) e o.dst v fun e=>RegS P N ops r (k+1) e h K
  |false=>nX e o.dst undef fun e=>RegS P N ops r (k+1) e h K
theorem RegS.Gd {P:Program}{N:Nat}{ops:Array Oper}{l:List Oper}{k:Nat}{e:Env}{h:Heap}{K:Env->Heap->Prop} (hk:tF P N ops l k e h K):RegS P N ops l k e h K:=by
 unfold tF at hk;split at hk
 ·exact⟨e,h,⟨rfl,rfl⟩,hk⟩
 ·rename_i o r;split at hk
  ·rename_i hw
   have:∃ v h',OpE P N o e h v h'/\(nV (dI ops k) e o.dst v fun e=>RegS P N ops r (k+1) e h' K):=by
    split at hk
    ·rename_i hl;split at hk
     ·exact tn hk
     ·obtain⟨v,hv,hk⟩:=hk;exact⟨v,h,.inl (OpD.pure (dj hl) hv),hk⟩
    ·exact tn hk
   obtain⟨v,h1,hd,hk⟩:=this;obtain⟨e2,h2,hr,hk⟩:=(fS hk).spec;refine⟨e2,h2,?_,hk⟩;unfold RegD;rw[if_pos hw];exact⟨v,h1,hd,hr⟩
  ·rename_i hw;obtain⟨e2,h2,hr,hk⟩:=(fC.1 hk).spec;refine⟨e2,h2,?_,hk⟩;unfold RegD;rw[if_neg (by rw[hw];simp)];exact hr
def rE (P:Program) (N:Nat) (ops:Array Oper) (h0:Heap) (l:List Oper) (k:Nat) (e:Env) (h:Heap) (K:Env->Heap->Prop):Prop :=
 match l with
 |[]=>K e h
 |o::r=>match Region.wanted o (ayielded ops e) with
  |true=>match isLen o.op with
   |true=>∃ v,aq P e.eval o=some v/\nV (dI ops k) e o.dst v fun e=>RegXS P N ops h0 r (k+1) e h K
   |false=>opG P N o e h (Er P ops h0 k o e h fun v h=>nV (dI ops k) e o.dst v fun e=>RegXS P N ops h0 r (k+1) e h K)
  |false=>nX e o.dst undef fun e=>RegXS P N ops h0 r (k+1) e h K
theorem RegXS.Gd {P:Program}{N:Nat}{ops:Array Oper}{h0:Heap}{l:List Oper}{k:Nat}{e:Env}{h:Heap}{K:Env->Heap->Prop} (hk:rE P N ops h0 l k e h K):RegXS P N ops h0 l k e h K:=by
 unfold rE at hk;split at hk
 ·exact⟨e,h,⟨rfl,rfl⟩,hk⟩
 ·split at hk
  ·rename_i hw;split at hk
   ·rename_i hl;obtain⟨v,hv,hk⟩:=hk;obtain⟨e2,h2,hr,hk⟩:=(fS hk).spec;refine⟨e2,h2,?_,hk⟩;unfold RegX;rw[if_pos hw];refine⟨v,h,⟨OpD.pure (dj hl) hv,?_,?_⟩,hr⟩
    ·intro q;unfold isChain at q;rw[dj hl] at q;cases q
    ·intro q;unfold cG at q;rw[dj hl] at q;cases q
   ·refine RegXS.step ?_;unfold mA;simp only[hw];exact hk
  ·rename_i hw;refine RegXS.step ?_;unfold mA;simp only[hw];exact hk
theorem Hs {P:Program}{N:Nat}{ops:Array Oper}{l:List Oper}{k:Nat}{e:Env}{h:Heap}{K:Env->Heap->Prop} (hk:tF P N ops l k e h K):RegS P N ops l k e h K:=RegS.Gd hk
theorem Hx {P:Program}{N:Nat}{ops:Array Oper}{h0:Heap}{l:List Oper}{k:Nat}{e:Env}{h:Heap}{K:Env->Heap->Prop} (hk:rE P N ops h0 l k e h K):RegXS P N ops h0 l k e h K:=RegXS.Gd hk
def i64 (n:Nat):Value:=.int .i64 (Int.ofNat n)
def n8 (n:Nat):Value:=.int .u8 (Int.ofNat n)
def z64 (n:Int):Value:=.int .i64 n
def ah {α:Type} (s:Nat) (enc:α->Value) (l:List α):Value:=FL s (l.map enc)
def ltN (a b:Nat):Bool:=ltI (Int.ofNat a) (Int.ofNat b)
def eqN (a b:Nat):Bool:=Int.ofNat a==Int.ofNat b
def neN (a b:Nat):Bool:=Int.ofNat a != Int.ofNat b
theorem aY (a b:Nat):ltN a b=decide (a<b):=by
 unfold ltN;rw[cX];simp
theorem kI (a b:Nat):eqN a b=decide (a=b):=by
 unfold eqN;rw[Bool.eq_iff_iff];simp only[Int.ofNat_eq_natCast,beq_iff_eq,decide_eq_true_eq];omega
theorem EZ (a b:Nat):neN a b = !decide (a=b):=by
 rw[<- kI];rfl
def eqZ (a b:Int):Bool:=a==b
def neZ (a b:Int):Bool:=a != b
theorem Ea (a b:Int):eqZ a b=decide (a=b):=by unfold eqZ;rw[Bool.eq_iff_iff];simp
theorem EK (a b:Int):neZ a b = !decide (a=b):=by rw[<- Ea];rfl
theorem BY {a:Nat} (h:a<2 ^ 63):IntKind.i64.wrap (Int.ofNat a)=Int.ofNat a:=IntWalk.i64_in _ (by simp only[Int.ofNat_eq_natCast];omega)
theorem cF {α:Type}{enc:α->Value}{s:Nat}{l:List α} (p:∀ a,AllPure (cl (enc a))):PureV (ah s enc l):=PureV.list p
theorem ag {α:Type}{l:List α}{j:Nat}{x:α} (h:l[j]?=some x):j<l.length:=(List.getElem?_eq_some_iff.1 h).1
section
variable {α:Type} {enc:α->Value} {s:Nat} {l:List α} {j:Nat} {x:α}
theorem get_map (h:l[j]?=some x):(l.map enc)[j]?=some (enc x):=by rw[List.getElem?_map,h];rfl
theorem aZ (hs:∀ x:α,(cl (enc x)).length=s) (l:List α):∀ e∈l.map enc,(cl e).length=s:=by
 intro e m;obtain⟨a,_,rfl⟩:=List.mem_map.1 m;exact hs a
theorem uc {L:List Value} (hs:∀ e∈L,(cl e).length=s) {e:Value} (hj:L[j]?=some e):flatC L=flatC (L.take j)++(cl e++flatC (L.drop (j+1)))/\(flatC (L.take j)).length=j*s:=by
 obtain⟨hl,rfl⟩:=List.getElem?_eq_some_iff.1 hj;refine⟨?_,by rw[ba fun e m=>hs e (List.mem_of_mem_take m),List.length_take,Nat.min_eq_left (Nat.le_of_lt hl)]⟩
 have e:L=L.take j++(L[j]::L.drop (j+1)):=by rw[List.getElem_cons_drop hl,List.take_append_drop]
 have e':flatC L=flatC (L.take j++(L[j]::L.drop (j+1))):=congrArg flatC e;rw[e',bN];rfl
theorem fA (hs:∀ x:α,(cl (enc x)).length=s) (hx:l[j]?=some x) {k:Nat}{v:Value} (hv:(cl (enc x))[k]?=some v):(flatC (l.map enc))[0+j*s+k]?=some v:=by
 obtain⟨e1,e2⟩:=uc (aZ hs l) (get_map (enc:=enc) hx);have hk:k<(cl (enc x)).length:=(List.getElem?_eq_some_iff.1 hv).1;rw[e1,List.getElem?_append_right (by omega),e2,List.getElem?_append_left (by omega)];rw[<- hv];congr 1;omega
theorem bX (hs:∀ x:α,(cl (enc x)).length=s) (hx:l[j]?=some x):((flatC (l.map enc)).drop (0+j*s)).take s=cl (enc x):=by
 obtain⟨e1,e2⟩:=uc (aZ hs l) (get_map (enc:=enc) hx);rw[e1,Nat.zero_add,<- e2,List.drop_left',List.take_left' (hs x)];rfl
theorem aX (hs:∀ x:α,(cl (enc x)).length=s) (l:List α):(flatC (l.map enc)).length=l.length*s:=by
 rw[ba (aZ hs l),List.length_map]
theorem cW (hs:∀ x:α,(cl (enc x)).length=s) (hj:j<l.length) {k n:Nat} (hk:k+n<=s):0+j*s+k+n<=(flatC (l.map enc)).length:=by
 rw[aX hs];have:(j+1)*s<=l.length*s:=Nat.mul_le_mul_right s hj;rw[Nat.add_mul,Nat.one_mul] at this;omega
theorem vo (hs:∀ x:α,(cl (enc x)).length=s) {y:α} (hy:l[j]?=some y) {x:α}{k:Nat}{vs:List Value} (hk:k+vs.length<=s) (hx:cl (enc x)=bp (cl (enc y)) k vs) :
  bp (flatC (l.map enc)) (0+j*s+k) vs=flatC ((l.set j x).map enc):=by
 obtain⟨e1,e2⟩:=uc (aZ hs l) (get_map (enc:=enc) hy);have hj:=ag hy;have hy2:=hs y
 have e3:flatC ((l.set j x).map enc)=flatC ((l.map enc).take j)++(cl (enc x)++flatC ((l.map enc).drop (j+1))):=by
  rw[List.map_set,List.set_eq_take_append_cons_drop,if_pos (by rw[List.length_map];exact hj),bN,fF]
 rw[e3,hx,e1,Nat.zero_add,<- e2];generalize flatC ((l.map enc).take j)=A;generalize flatC ((l.map enc).drop (j+1))=C;generalize cl (enc y)=M at hy2;unfold bp;rw[List.take_append,List.take_of_length_le (by omega:A.length<=A.length+k),List.drop_append,List.drop_eq_nil_of_le (by omega:A.length<=A.length+k+vs.length)];rw[show A.length+k-A.length=k by omega,show A.length+k+vs.length-A.length=k+vs.length by omega];rw[List.take_append_of_le_length (by omega),List.drop_append_of_le_length (by omega)];simp[List.append_assoc]
theorem AO (hs:∀ x:α,(cl (enc x)).length=s) (hj:j<l.length) {x:α}{vs:List Value} (hv:vs=cl (enc x)):bp (flatC (l.map enc)) (0+j*s) vs=flatC ((l.set j x).map enc):=by
 subst hv;have hy:l[j]?=some l[j]:=List.getElem?_eq_getElem hj;refine vo hs hy (k:=0) (by rw[hs];omega) ?_;unfold bp;simp only[List.take_zero,List.nil_append,Nat.zero_add];rw[List.drop_eq_nil_of_le (by rw[hs,hs];exact Nat.le_refl _),List.append_nil]
theorem yv (l m:List α):l.map enc++m.map enc=(l++m).map enc:=(List.map_append).symm
end
variable {P:Program} {ρ:Operand->Value} {d:Option Tmp} {ty:TypeId} {pos:String} {af:Array Edge} {gd:Option (Nat×Bool)}
theorem Jp {α:Type}{enc:α->Value}{t e:TypeId}{x i:Operand}{s j:Nat}{l:List α}{kk:IntKind}{a:α}{K:Value->Prop} (hu:P.underlying t=some (.slice e)) (hs:aQ P e=some s) (hx:ρ x=FL s (l.map enc)) (hi:ρ i=.int kk (Int.ofNat j)) (he:l[j]?=some a) (hk:K (FP (enc a))) :
 ∃ v,aq P ρ { dst:=d,op:=.indexAddr t x i,type:=ty,pos:=pos,after:=af,guard:=gd }=some v/\K v:=JV hu hs hx hi (get_map he) hk
theorem Kg {t yt:TypeId}{x y:Operand}{a b:Nat} (hx:ρ x=.int .i64 (Int.ofNat a)) (hy:ρ y=.int .i64 (Int.ofNat b)) (hb:a*b<2 ^ 63) :
  aq P ρ { dst:=d,op:=.binOp .mul t x y yt,type:=ty,pos:=pos,after:=af,guard:=gd }=some (.int .i64 (Int.ofNat (a*b))):=by
 refine vr hx hy ?_;simp only[dK,Option.some.injEq,Value.int.injEq,true_and];have:Int.ofNat a*Int.ofNat b=Int.ofNat (a*b):=rfl;rw[this,IntWalk.i64_in _ (by simp only[Int.ofNat_eq_natCast];omega)]
theorem J7 {t yt:TypeId}{x y:Operand}{a b:Nat} (hx:ρ x=.int .i64 (Int.ofNat a)) (hy:ρ y=.int .i64 (Int.ofNat b)) (hb:0<b) (ha:a<2 ^ 63) :
  aq P ρ { dst:=d,op:=.binOp .quo t x y yt,type:=ty,pos:=pos,after:=af,guard:=gd }=some (.int .i64 (Int.ofNat (a/b))):=by
 have hp:(Op.binOp .quo t x y yt).operands.all (fun x=>plain (ρ x))=true:=by simp[Op.operands,hx,hy,plain,aJ]
 have hpl:plain (.int .i64 (Int.ofNat (a/b)))=true:=rfl;have hle:a/b<=a:=Nat.div_le_self a b;have hw:IntKind.i64.wrap (Int.ofNat (a/b))=Int.ofNat (a/b):=IntWalk.i64_in _ (by simp only[Int.ofNat_eq_natCast];generalize a/b=q at hle;omega);have hd:Int.tdiv (Int.ofNat a) (Int.ofNat b)=Int.ofNat (a/b):=rfl
 have this:bK P (execOp ρ { dst:=d,op:=.binOp .quo t x y yt,type:=ty,pos:=pos,after:=af,guard:=gd })=some (.value (.int .i64 (Int.ofNat (a/b)))):=by
  have hne:¬ Int.ofNat b=0:=by simp only[Int.ofNat_eq_natCast];omega
  simp only[execOp,dE,hx,hy,binOp,eqGuard,ne_eq,not_true_eq_false,if_false,Op.intDiv,hne,hd,hw];rfl
 have that:aW P ρ { dst:=d,op:=.binOp .quo t x y yt,type:=ty,pos:=pos,after:=af,guard:=gd }=some (.int .i64 (Int.ofNat (a/b))):=by
  unfold aW;rw[if_pos hp,this];simp only[hpl,if_true]
 unfold aq;simp only[hx,hy,quick,dK,if_pos];exact that
theorem JD {t u:TypeId}{x y:Operand}{k:IntKind}{a b:Nat} (hx:ρ x=.int k (Int.ofNat a)) (hy:ρ y=.int k (Int.ofNat b)) :
  aq P ρ { dst:=d,op:=.call { callee:=.builtin .min,args := #[x,y],argTypes := #[t,u] },type:=ty,pos:=pos,after:=af,guard:=gd }=some (.int k (Int.ofNat (min a b))):=by
 unfold aq;simp only[List.map_cons,List.map_nil,hx,hy,if_true]
 cases h:ltI (Int.ofNat b) (Int.ofNat a) with
 |true=>rw[cX] at h;simp at h;rw[Nat.min_eq_right (by omega)]
 |false=>rw[cX] at h;simp at h;rw[Nat.min_eq_left (by omega)]
theorem Kj {t u:TypeId}{x y:Operand}{k:IntKind}{a b:Nat} (hx:ρ x=.int k (Int.ofNat a)) (hy:ρ y=.int k (Int.ofNat b)) :
  aq P ρ { dst:=d,op:=.call { callee:=.builtin .max,args := #[x,y],argTypes := #[t,u] },type:=ty,pos:=pos,after:=af,guard:=gd }=some (.int k (Int.ofNat (max a b))):=by
 unfold aq;simp only[List.map_cons,List.map_nil,hx,hy,if_true]
 cases h:ltI (Int.ofNat a) (Int.ofNat b) with
 |true=>rw[cX] at h;simp at h;rw[Nat.max_eq_right (by omega)]
 |false=>rw[cX] at h;simp at h;rw[Nat.max_eq_left (by omega)]
theorem Jh {t e:TypeId}{x:Operand}{b:Option Addr}{n c:Nat}{K:Value->Prop} (hu:P.underlying t=some (.slice e)) (hx:ρ x=.slice b n c) (hk:K (.int .i64 (Int.ofNat n))) :
  ∃ v,aq P ρ { dst:=d,op:=.call { callee:=.builtin .len,args := #[x],argTypes := #[t] },type:=ty,pos:=pos,after:=af,guard:=gd }=some v/\K v:=by
 refine⟨_,?_,hk⟩;unfold aq;have e2:(#[t][0]?).bind P.underlying=some (.slice e):=hu;simp only[e2,List.map_cons,List.map_nil,hx];rfl
theorem Kb {α:Type}{enc:α->Value}{s:Nat}{t e:TypeId}{x:Operand}{l:List α}{K:Value->Prop} (hu:P.underlying t=some (.slice e)) (hx:ρ x=FL s (l.map enc)) (hk:K (.int .i64 (Int.ofNat l.length))) :
  ∃ v,aq P ρ { dst:=d,op:=.call { callee:=.builtin .len,args := #[x],argTypes := #[t] },type:=ty,pos:=pos,after:=af,guard:=gd }=some v/\K v:=by
 refine⟨_,?_,hk⟩;unfold aq;have e2:(#[t][0]?).bind P.underlying=some (.slice e):=hu;simp only[e2,List.map_cons,List.map_nil,hx,FL,List.length_map];rfl
theorem Kc {α:Type}{enc:α->Value}{t e:TypeId}{x:Operand}{l:List α}{b:Option Addr}{c:Nat}{K:Value->Prop} (hu:P.underlying t=some (.slice e)) (hx:ρ x=.slice b (l.map enc).length c) (hk:K (.int .i64 (Int.ofNat l.length))) :
  ∃ v,aq P ρ { dst:=d,op:=.call { callee:=.builtin .len,args := #[x],argTypes := #[t] },type:=ty,pos:=pos,after:=af,guard:=gd }=some v/\K v :=
 Jh hu hx (by rw[List.length_map];exact hk)
theorem wJ {fn:Fn}{first captured:Array Operand}{l m:List Value}{K:Value->Prop} (h1:first.toList.map ρ=l) (h2:captured.toList.map ρ=m) (hk:K (.func fn ⟨l⟩ ⟨m⟩)) :
  ∃ v,aq P ρ { dst:=d,op:=.makeFunc fn first captured,type:=ty,pos:=pos,after:=af,guard:=gd }=some v/\K v:=by
 refine⟨_,?_,hk⟩;subst h1 h2
 have e:∀ a:Array Operand,a.map ρ=⟨a.toList.map ρ⟩:=fun a=>by
  obtain⟨l⟩:=a;simp
 unfold aq;simp only[e]
theorem IW {t yt:TypeId}{x y:Operand}{a b:Nat} (hx:ρ x=.int .u8 (Int.ofNat a)) (hy:ρ y=.int .u8 (Int.ofNat b)) (hle:b<=a) (hb:a<256) :
  aq P ρ { dst:=d,op:=.binOp .sub t x y yt,type:=ty,pos:=pos,after:=af,guard:=gd }=some (.int .u8 (Int.ofNat (a-b))):=by
 refine vr hx hy ?_;simp only[dK,Option.some.injEq,Value.int.injEq,true_and];rw[IntWalk.u8_in _ (by simp only[Int.ofNat_eq_natCast];omega)];simp only[Int.ofNat_eq_natCast];omega
section
variable {α:Type} {enc:α->Value} {t e:TypeId} {x lo hi mx:Operand} {s k:Nat} {l:List α} {kk kk':IntKind} {K:Value->Prop}
theorem Cq (q:IntKind) {a b:Nat} (h:a<=b):bnd (.int q (Int.ofNat a)) b=some a:=if_pos ⟨Int.natCast_nonneg _,Int.ofNat_le.2 h⟩
end
section
variable {N:Nat} {B:List AObj} {h0 h:Heap} {L:List Slot}
def yu (L:List Slot):List Nat->List Slot
 |[]=>[]
 |i::r=>match L[i]? with
  |some x=>x::yu L r
  |none=>yu L r
theorem nw {L:List Slot}:∀ {I:List Nat}{x:Slot},x∈yu L I->∃ i∈I,L[i]?=some x
 |[],_,m=>by cases m
 |i::r,x,m=>by
  unfold yu at m;split at m
  ·rename_i y hy
   rcases List.mem_cons.1 m with rfl|m
   ·exact⟨i,.head _,hy⟩
   ·obtain⟨k,h1,h2⟩:=nw m;exact⟨k,.tail _ h1,h2⟩
  ·obtain⟨k,h1,h2⟩:=nw m;exact⟨k,.tail _ h1,h2⟩
theorem Own.sel (O:Own B h0 L h) (I:List Nat) (hI:I.Nodup):Own B h0 (yu L I) h:=by
 refine O.sub (fun x m=>?_) ?_
 ·obtain⟨i,_,e⟩:=nw m;exact List.mem_of_getElem? e
 ·have two:∀ (i j:Nat) (x y:Slot),i≠j->L[i]?=some x->L[j]?=some y->Apart x y:=by
   intro i j x y hne hx hy;obtain⟨hi,rfl⟩:=List.getElem?_eq_some_iff.1 hx;obtain⟨hj,rfl⟩:=List.getElem?_eq_some_iff.1 hy;have hp:=List.pairwise_iff_getElem.1 O.apart
   rcases Nat.lt_or_gt_of_ne hne with q|q
   ·exact hp i j hi hj q
   ·intro g e e';exact hp j i hj hi q g e' e
  induction I with
  |nil=>exact .nil
  |cons i r ih =>
   obtain⟨h1,h2⟩:=List.nodup_cons.1 hI;unfold yu;split
   ·rename_i y hy;refine List.pairwise_cons.2 ⟨fun x m=>?_,ih h2⟩;obtain⟨k,k1,k2⟩:=nw m;exact two i k y x (fun e=>h1 (e ▸ k1)) hy k2
   ·exact ih h2
theorem Own.JY {α:Type}{enc:α->Value}{z:α}{t e:TypeId}{x y:Operand}{n b s:Nat}{K:Value->Heap->Prop} (O:Own B h0 L h) (hu:P.underlying t=some (.slice e)) (hs:aQ P e=some s) (hb:kJ P e=some b) (hz:zeroOf P e=some (enc z)) (hz1:(enc z).cells.size=s) (hpos:0<s) (hp:(enc z).cells.all aJ=true)
  (hx:ρ x=.int .i64 (Int.ofNat n)) (hy:ρ y=.int .i64 (Int.ofNat n)) (hn:b*n<=2 ^ 48) (hn2:n<2 ^ 63)
  (k:∀ g h1,Own B h0 ((some g,.cells (flatC ((List.replicate n z).map enc)) false)::L) h1->K (.slice (some ⟨g,0,none⟩) n n) h1) :
  NewG P ρ { dst:=d,op:=.makeSlice t x y,type:=ty,pos:=pos,after:=af,guard:=gd } h K:=by
 refine O.new (vS hu hs hb hz hz1 hpos hp hx hy hn hn2) fun g h1 O=>k g h1 ?_;rw[List.map_replicate];exact O
theorem Own.BE {α:Type}{enc:α->Value}{z:α}{t e:TypeId}{x y:Operand}{n b s:Nat}{K:Value->Heap->Prop} (O:Own B h0 L h) (hu:P.underlying t=some (.slice e)) (hs:aQ P e=some s) (hb:kJ P e=some b) (hz:zeroOf P e=some (enc z)) (hz1:(enc z).cells.size=s) (hpos:0<s) (hp:(enc z).cells.all aJ=true)
  (hx:ρ x=.int .i64 (Int.ofNat n)) (hy:ρ y=.int .i64 (Int.ofNat n)) (hn:b*n<=2 ^ 48) (hn2:n<2 ^ 63)
  (k:∀ g h1,Own B h0 ((some g,.cells (flatC ((List.replicate n z).map enc)) false)::L) h1->K (.slice (some ⟨g,0,none⟩) n n) h1) :
  ∃ ob f,anew P ρ { dst:=d,op:=.makeSlice t x y,type:=ty,pos:=pos,after:=af,guard:=gd }=some (ob,f)/\∀ h1,New h ob h1->K (f h.size) h1:=by
 refine O.AK (vS hu hs hb hz hz1 hpos hp hx hy hn hn2) fun g h1 O=>k g h1 ?_;rw[List.map_replicate];exact O
theorem Own.uO {α:Type}{enc:α->Value}{l:List α}{t e:TypeId}{n s:Nat}{ps:Array (Nat×Operand)}{z:Value}{K:Value->Heap->Prop} (O:Own B h0 L h) (hu:P.underlying t=some (.slice e)) (hs:aQ P e=some s) (hz:zeroOf P e=some z) (hp:z.cells.all aJ=true) (hpos:Nat.ble 1 (n*s)=true) (hle:Nat.ble (n*s) (2 ^ 24)=true)
  (hv:ps.toList.map (fun p=>(p.1,ρ p.2))=parts 0 (l.map enc)) (hn:(l.map enc).length=n) (hc:∀ x:α,(cl (enc x)).length=s)
  (k:∀ g h1,Own B h0 ((some g,.cells (flatC (l.map enc)) false)::L) h1->K (.slice (some ⟨g,0,none⟩) n n) h1) :
  NewG P ρ { dst:=d,op:=.buildSlice t n ps,type:=ty,pos:=pos,after:=af,guard:=gd } h K :=
 O.new (po hu hs hz hp hpos hle hv hn (aZ hc l)) k
theorem Own.dJ {α:Type}{enc:α->Value}{l:List α}{t e:TypeId}{n s:Nat}{ps:Array (Nat×Operand)}{z:Value}{K:Value->Heap->Prop} (O:Own B h0 L h) (hu:P.underlying t=some (.slice e)) (hs:aQ P e=some s) (hz:zeroOf P e=some z) (hp:z.cells.all aJ=true) (hpos:Nat.ble 1 (n*s)=true) (hle:Nat.ble (n*s) (2 ^ 24)=true)
  (hv:ps.toList.map (fun p=>(p.1,ρ p.2))=parts 0 (l.map enc)) (hn:(l.map enc).length=n) (hc:∀ x:α,(cl (enc x)).length=s)
  (k:∀ g h1,Own B h0 ((some g,.cells (flatC (l.map enc)) false)::L) h1->K (.slice (some ⟨g,0,none⟩) n n) h1) :
  ∃ ob f,anew P ρ { dst:=d,op:=.buildSlice t n ps,type:=ty,pos:=pos,after:=af,guard:=gd }=some (ob,f)/\∀ h1,New h ob h1->K (f h.size) h1 :=
 O.AK (po hu hs hz hp hpos hle hv hn (aZ hc l)) k
structure YOk {α:Type} (h:Heap) (s:Nat) (v:Value) (enc:α->Value) (new:List α):Prop where
 len:lenOf v=some new.length
 first:firstOf h s new.length v=some (flatC (new.map enc))
theorem YOk.fl {α:Type}{h:Heap}{s:Nat}{v:Value}{enc:α->Value}{new:List α} (hy:v=FL s (new.map enc)):YOk h s v enc new:=by
 subst hy;refine⟨?_,?_⟩
 ·show some (new.map enc).length=_
  rw[List.length_map]
 ·unfold firstOf FL
  cases hq:new.map enc with
  |nil=>simp[flatC]
  |cons v r =>
   have:Nat.beq s s=true:=Nat.beq_refl s;simp only[this];rw[List.take_of_length_le (by rw[<- hq,List.length_map];exact Nat.le_refl _)]
theorem YOk.own {α:Type}{h:Heap}{s g n cap:Nat}{sp:Option Nat}{ro:Bool}{v:Value}{enc:α->Value}{new:List α} (hg:h.get g=some (.cells (flatC (new.map enc)) ro)) (hv:v=.slice (some ⟨g,0,sp⟩) n cap) (hs:∀ x:α,(cl (enc x)).length=s) (hn:n=new.length):YOk h s v enc new:=by
 subst hv hn;exact⟨rfl,so hg (aX hs new).symm⟩
theorem Own.gR {α:Type}{enc:α->Value}{l new:List α}{ts tx te:TypeId}{dx:TypeDesc}{x y:Operand}{s b:Nat}{a:Option Nat}{z:Value}{f:Slot->List Slot}{K:Value->Heap->Prop} (O:Own B h0 L h) (A:At (a,.cells (flatC (l.map enc)) false) L f) (ha:a=none->l=[])
  (hts:P.underlying ts=some (.slice te)) (htx:P.underlying tx=some dx) (hni:eB dx=true) (hs:aQ P te=some s) (hb:kJ P te=some b) (hz:zeroOf P te=some z) (hzs:z.cells.size=s)
  (hx:ρ x=ae s a (l.map enc)) (hy:YOk h s (ρ y) enc new) (hsz:∀ x:α,(cl (enc x)).length=s) (hone:∀ x:α,(cl (enc x)).all Value.oneCell'=true)
  (hb0:0<b) (hlim:(l.length+new.length)*b<=2 ^ 47)
  (k:∀ a' h1,(a'=none->l++new=[])->Own B h0 (f (a',.cells (flatC ((l++new).map enc)) false)) h1->K (ae s a' ((l++new).map enc)) h1) :
  ∃ (v:Value) (T:Heap->Prop),(∃ h',dp P ρ { dst:=d,op:=.call { callee:=.builtin .append,args := #[x,y],argTypes := #[ts,tx] },type:=ty,pos:=pos,after:=af,guard:=gd } h=some (v,h')/\T h')/\∀ h1,T h1->K v h1:=by
 have hlen:=hy.len;have hfirst:=hy.first;refine O.append A (fun e=>by rw[ha e];rfl) hts htx hni hs hb hz hzs hx hlen hfirst (List.length_map ..) (fun e m=>?_) ?_ hb0 (by rw[List.length_map];exact hlim) (yv l new) fun a' h1 h2 O=>k a' h1 (fun e=>by simpa using h2 e) O
 ·rw[yv] at m;exact aZ hsz _ e m
 ·rw[List.all_eq_true];intro v m;simp only[flatC,List.mem_flatMap,List.mem_map] at m;obtain⟨_,⟨a,_,rfl⟩,m⟩:=m;exact List.all_eq_true.1 (hone a) v m
theorem Own.jR {α:Type}{enc:α->Value}{l:List α}{b s:Nat}{a:Option Nat}{ro:Bool}{h2:Heap} (O:Own B h0 L h) (F:Frozen b h h2) (hb:b<=h0.size) (m:(a,.cells (flatC (l.map enc)) ro)∈L) (ha:a=none->l=[]) (hs:∀ x:α,(cl (enc x)).length=s):VLe h2 (ae s a (l.map enc)) (ah s enc l) :=
 O.grown F hb m (fun e=>by rw[ha e];rfl) (aZ hs l)
theorem Own.gA {α:Type}{enc:α->Value}{l:List α}{b s n cap g:Nat}{sp:Option Nat}{ro:Bool}{h2:Heap} (O:Own B h0 L h) (F:Frozen b h h2) (hb:b<=h0.size) (m:(some g,.cells (flatC (l.map enc)) ro)∈L) (hs:∀ x:α,(cl (enc x)).length=s) (hn:n=l.length):VLe h2 (.slice (some ⟨g,0,sp⟩) n cap) (ah s enc l) :=
 O.flat F hb m rfl (by rw[List.length_map];exact hn) (aZ hs l)
theorem CallD.Jl {f:FuncId}{l l':List Value}{v:Value}{h':Heap} (c:CallD P N f ⟨l⟩ h v h') (a:LLe h l' l):CallD P N f ⟨l'⟩ h v h' :=
 ⟨c.1,fun ι w vs' H r=>c.2 ι w vs' H (a.DI H r)⟩
def jo (h:Heap):Nat->Heap
 |0=>h
 |k+1=>match (jo h k).get k with
  |some ob=>(jo h k).upd k ob.fz
  |none=>jo h k
theorem wq (h:Heap):∀ k,(jo h k).size=h.size/\∀ g,(jo h k).get g=if g<k then (h.get g).map AObj.fz else h.get g
 |0=>⟨rfl,fun g=>by rw[if_neg (Nat.not_lt_zero g)];rfl⟩
 |k+1=>by
  obtain⟨s1,g1⟩:=wq h k;unfold jo
  cases e:(jo h k).get k with
  |none =>
   refine⟨s1,fun g=>?_⟩
   have e0:h.get k=none:=by
    have:=g1 k;rw[if_neg (Nat.lt_irrefl k)] at this;rw[<- this];exact e
   rw[g1];by_cases q:g=k
   ·subst q;rw[if_neg (Nat.lt_irrefl g),if_pos (Nat.lt_succ_self g),e0];rfl
   ·by_cases q2:g<k
    ·rw[if_pos q2,if_pos (by omega)]
    ·rw[if_neg q2,if_neg (by omega)]
  |some ob =>
   have e0:h.get k=some ob:=by
    have:=g1 k;rw[if_neg (Nat.lt_irrefl k)] at this;rw[<- this];exact e
   refine⟨s1,fun g=>?_⟩;simp only;rw[Heap.bF _ _ _ _ (Heap.ag e)];by_cases q:g=k
   ·subst q;rw[if_pos rfl,if_pos (Nat.lt_succ_self g),e0];rfl
   ·rw[if_neg q,g1];by_cases q2:g<k
    ·rw[if_pos q2,if_pos (by omega)]
    ·rw[if_neg q2,if_neg (by omega)]
theorem HRel.jo {ι:Inj}{w:World} (H:HRel N ι h w):∀ k,∃ ι':Inj,HRel N ι' (jo h k) w/\FzStep ι ι'
 |0=>⟨ι,H,FzStep.refl ι⟩
 |k+1=>by
  obtain⟨ι1,H1,f1⟩:=HRel.jo H k;unfold Abs.jo
  cases e:(Abs.jo h k).get k with
  |none=>exact⟨ι1,H1,f1⟩
  |some ob =>
   obtain⟨ι2,H2,f2⟩:=H1.xr e;exact⟨ι2,H2,f1.trans f2⟩
theorem yn (h:Heap):Frozen 0 h (jo h h.size):=by
 obtain⟨s1,g1⟩:=wq h h.size;refine⟨s1,fun g=>?_⟩;rw[g1,if_pos (Nat.zero_le _)];by_cases q:g<h.size
 ·rw[if_pos q]
 ·rw[if_neg q]
  cases e:h.get g with
  |none=>rfl
  |some ob=>exact absurd (Heap.ag e) q
theorem Own.ID {f:FuncId}{l l':List Value}{R:Type}{enc:R->Value}{Q:R->Prop}{K:Value->Heap->Prop} (O:Own B h0 L h) (F:∀ h2,HasB B h2->∃ r,Q r/\CallD P N f ⟨l⟩ h2 (enc r) h2) {g:Nat}{cs:List Value}{ro:Bool}{fL:Slot->List Slot} (A:At (some g,.cells cs ro) L fL) {i off n cap:Nat}{sp:Option Nat}
  (hi:l'[i]?=some (.slice (some ⟨g,off,sp⟩) n cap)) (fok:fnOk P f=true) (a:∀ h2,h2.get g=some (.cells cs true)->LLe h2 l' l) (k:∀ r h1,Q r->Own B h0 (fL (some g,.cells cs true)) h1->K (enc r) h1) :
  ∃ v h',CallD P N f ⟨l'⟩ h v h'/\K v h':=by
 have hg:=O.at A.mem;have u:=Upd.upd (.cells cs true) (Heap.ag hg);have O1:=O.upd A u;obtain⟨r,hq,c⟩:=F _ O1.has;refine⟨enc r,h.upd g (.cells cs true),⟨Nat.le_refl _,fun ι w vs' H ra=>?_⟩,k r _ hq O1⟩
 have hmap:∃ l0,ι g=some l0:=by
  have:=ra.2 i;rw[<- dW] at this;simp only[List.getD,hi,Option.getD_some] at this;generalize vs'.getD i undef=y at this
  cases this with
  |slice _ _ _ _ _ l0 q=>exact⟨l0,q⟩
  |sliceOpen _ _ _ _ _ _ _ l0 q=>exact⟨l0,q⟩
 obtain⟨l0,hl0⟩:=hmap;obtain⟨ι2,H2,S2⟩:=jW H hl0 hg;have ra2:bm ι2 ⟨l⟩ vs':=(a _ u.get).DI H2 (ra.mono S2.ext)
 rcases c.2 ι2 w vs' H2 ra2 with⟨ok,hc⟩|⟨v',e1,e2,_⟩
 ·refine .inl ⟨ok,hc.mono fun e' w' q=>?_⟩;obtain⟨ι',v',rfl,r',H',S⟩:=q;exact⟨ι',v',rfl,r',H',S2.trans S⟩
 ·exfalso;have:=gq (w:=w) fok vs';rw[this] at e1
  cases e1
theorem fP {α:Type}{l:List α}{a:Option Nat}{j:Nat}{x:α} (ha:a=none->l=[]) (hx:l[j]?=some x):∃ g,a=some g:=by
 cases a with
 |none=>rw[ha rfl] at hx;simp at hx
 |some g=>exact⟨g,rfl⟩
theorem Fk {α:Type}{l:List α}{a:Option Nat} (ha:a=none->l=[]) (hx:0<l.length):∃ g,a=some g:=by
 cases a with
 |none=>rw[ha rfl] at hx;simp at hx
 |some g=>exact⟨g,rfl⟩
theorem Own.BT {x y:AObj}{f:Slot->List Slot} (O:Own B h0 L h) (A:At (none,x) L f):Own B h0 (f (none,y)) h:=by
 refine⟨O.base,O.ext,fun g o m=>?_,A.apart O.apart fun x m hx=>?_⟩
 ·rcases A.mem_of m with e|m
  ·cases e
  ·exact O.get g o m
 ·exact .inl ⟨(fun g e=>by cases e),(fun g e e'=>by cases e')⟩
def iW (a:Option Nat) (l:List Value):Value:=.slice (a.map fun g=>⟨g,0,none⟩) l.length l.length
theorem ui {α:Type}{enc:α->Value}{t e:TypeId}{x hi mx:Operand}{s n m:Nat}{a:Option Nat}{l:List α}{kk kk':IntKind}{K:Value->Prop} (hu:P.underlying t=some (.slice e)) (hs:aQ P e=some s) (hx:ρ x=ae s a (l.map enc)) (hhi:ρ hi=.int kk (Int.ofNat n)) (hmx:ρ mx=.int kk' (Int.ofNat m)) (hn:n=l.length) (hm:m=l.length)
  (hk:K (iW a (l.map enc))):∃ v,aq P ρ { dst:=d,op:=.slice t x none (some hi) (some mx),type:=ty,pos:=pos,after:=af,guard:=gd }=some v/\K v:=by
 subst hn hm;refine⟨_,?_,hk⟩;have h1:∀ q,bnd (.int q (Int.ofNat l.length)) l.length=some l.length:=fun q=>if_pos ⟨Int.natCast_nonneg _,Int.ofNat_le.2 (Nat.le_refl _)⟩;unfold aq;simp only[hu,hx,ae,hs,Option.map_some,Option.map_none,hhi,hmx,List.length_map];unfold fa;simp only[h1]
 cases a with
 |none=>simp[iW]
 |some g=>simp[iW]
theorem Own.B0 {α:Type}{enc:α->Value}{l:List α}{b s:Nat}{a:Option Nat}{ro:Bool}{h2:Heap} (O:Own B h0 L h) (F:Frozen b h h2) (hb:b<=h0.size) (m:(a,.cells (flatC (l.map enc)) ro)∈L) (ha:a=none->l=[]) (hs:∀ x:α,(cl (enc x)).length=s):VLe h2 (iW a (l.map enc)) (ah s enc l):=by
 cases a with
 |none =>
  have:=ha rfl;subst this;exact VLe.nil _ _
 |some g=>exact O.flat F hb m rfl rfl (aZ hs l)
theorem Own.GI {α:Type}{enc':α->Value}{la:List α}{s:Nat}{a:Option Nat}{f:FuncId}{l l':List Value}{R:Type}{enc:R->Value}{Q:R->Prop}{K:Value->Heap->Prop} (O:Own B h0 L h) (F:∀ h2,HasB B h2->∃ r,Q r/\CallD P N f ⟨l⟩ h2 (enc r) h2) {ro:Bool}{fL:Slot->List Slot} (A:At (a,.cells (flatC (la.map enc')) ro) L fL) (ha:a=none->la=[]) (hs:∀ x:α,(cl (enc' x)).length=s) {i:Nat}
  (hi:l'[i]?=some (ae s a (la.map enc'))) (fok:fnOk P f=true) (le:∀ h2,VLe h2 (ae s a (la.map enc')) (ah s enc' la)->LLe h2 l' l) (k:∀ r h1,Q r->Own B h0 (fL (a,.cells (flatC (la.map enc')) true)) h1->K (enc r) h1) :
  ∃ v h',CallD P N f ⟨l'⟩ h v h'/\K v h':=by
 cases a with
 |none =>
  have:=ha rfl;subst this;obtain⟨r,hq,c⟩:=F _ O.has;exact⟨_,_,c.Jl (le h (VLe.nil _ _)),k r _ hq (O.BT A)⟩
 |some g =>
  refine O.ID F A hi fok (fun h2 hg=>le h2 ?_) k;refine VLe.fl hg rfl (aZ hs la) (by rw[aX hs,List.length_map];omega) ?_;rw[List.drop_zero,<- ba (aZ hs la),List.take_length];exact LLe.refl _ _
theorem Own.Dq {α:Type}{enc':α->Value}{la:List α}{s g n cap:Nat}{sp:Option Nat}{f:FuncId}{l l':List Value}{R:Type}{enc:R->Value}{Q:R->Prop}{K:Value->Heap->Prop} (O:Own B h0 L h) (F:∀ h2,HasB B h2->∃ r,Q r/\CallD P N f ⟨l⟩ h2 (enc r) h2) {ro:Bool}{fL:Slot->List Slot} (A:At (some g,.cells (flatC (la.map enc')) ro) L fL) (hn:n=la.length) (hs:∀ x:α,(cl (enc' x)).length=s) {i:Nat}
  (hi:l'[i]?=some (.slice (some ⟨g,0,sp⟩) n cap)) (fok:fnOk P f=true) (le:∀ h2,VLe h2 (.slice (some ⟨g,0,sp⟩) n cap) (ah s enc' la)->LLe h2 l' l) (k:∀ r h1,Q r->Own B h0 (fL (some g,.cells (flatC (la.map enc')) true)) h1->K (enc r) h1) :
  ∃ v h',CallD P N f ⟨l'⟩ h v h'/\K v h':=by
 refine O.ID F A hi fok (fun h2 hg=>le h2 ?_) k;refine VLe.fl hg (by rw[List.length_map];exact hn) (aZ hs la) (by rw[aX hs,hn];omega) ?_;rw[List.drop_zero,hn,<- List.length_map (f:=enc'),<- ba (aZ hs la),List.take_length];exact LLe.refl _ _
theorem Own.AV {α:Type}{enc:α->Value}{l:List α}{s n g:Nat}{ro:Bool} (O:Own B h0 L h) (m:(some g,.cells (flatC (l.map enc)) ro)∈L) (hs:∀ x:α,(cl (enc x)).length=s) (hn:n=l.length) (hpos:0<l.length):VLe h (.slice (some ⟨g,0,none⟩) n n) (ae s (some g) (l.map enc)):=fun N ι w v' H r=>by
 subst hn
 cases r with
 |slice _ _ _ _ o l0 hι hle ho =>
  obtain⟨C,ty,fr,_,_,h3,h4,_⟩:=H.obj g l0 _ hι (O.at m);rw[aX hs] at h4;unfold ae;rw[List.length_map];exact .sliceOpen g 0 s _ _ _ o l0 hι hle (Nat.le_refl _) ho (by rw[ho (by omega)];omega)
theorem Own.fY (F:List Slot) (O:Own B h0 (F++L) h) (I:List Nat) (hI:I.Nodup):Own B h0 (yu F I++L) h:=by
 have hap:=List.pairwise_append.1 O.apart;have OF:Own B h0 F h:=⟨O.base,O.ext,fun g o m=>O.get g o (List.mem_append_left _ m),hap.1⟩;have Os:=OF.sel I hI
 have sub:∀ x∈yu F I,x∈F:=fun x m=>by
  obtain⟨i,_,e⟩:=nw m;exact List.mem_of_getElem? e
 refine O.sub (fun x m=>?_) (List.pairwise_append.2 ⟨Os.apart,hap.2.1,fun x m y m'=>hap.2.2 x (sub x m) y m'⟩)
 rcases List.mem_append.1 m with m|m
 ·exact List.mem_append_left _ (sub x m)
 ·exact List.mem_append_right _ m
theorem HRel.qg {ι:Inj}{w:World} (H:HRel N ι h w) {g:Nat}{cs cs':List Value}{ro:Bool} (hg:h.get g=some (.cells cs ro)) (hle:LLe h cs cs'):HRel N ι (h.upd g (.cells cs' ro)) w:=by
 have hlt:=Heap.ag hg;have get:=Heap.bF h g (.cells cs' ro)
 have mutB:∀ k,(h.upd g (.cells cs' ro)).mut k->h.mut k:=fun k ⟨o,e,m⟩=>by
  rw[get k hlt] at e;by_cases q:k=g
  ·rw[if_pos q] at e;cases e;subst q;exact⟨_,hg,m⟩
  ·rw[if_neg q] at e;exact⟨o,e,m⟩
 have liveB:∀ k,(h.upd g (.cells cs' ro)).live k->h.live k:=fun k ⟨o,e,m⟩=>by
  rw[get k hlt] at e;by_cases q:k=g
  ·rw[if_pos q] at e;cases e;subst q;exact⟨_,hg,rfl⟩
  ·rw[if_neg q] at e;exact⟨o,e,m⟩
 refine⟨H.dom,H.blk,H.glob,fun k l o e1 e2=>?_,fun k k' l l' e1 e2 hne m1 m2=>H.apart k k' l l' e1 e2 hne (mutB k m1) (liveB k' m2),H.frz,fun b C k l e1 e2 m=>H.fzap b C k l e1 e2 (mutB k m),fun k l cs2 e1 e2=>?_⟩
 ·rw[get k hlt] at e2;by_cases q:k=g
  ·rw[if_pos q] at e2;cases e2;subst q;obtain⟨C,ty,fr,c1,c2,c3,c4,c5⟩:=H.obj k l _ e1 hg;refine⟨C,ty,fr,c1,c2,c3,by rw[<- hle.1];exact c4,fun i v hv=>?_⟩
   have hi:i<cs.length:=by rw[hle.1];exact (List.getElem?_eq_some_iff.1 hv).1
   obtain⟨v',d1,d2⟩:=c5 i _ (List.getElem?_eq_getElem hi);exact⟨v',d1,hle.get (List.getElem?_eq_getElem hi) hv N ι w v' H d2⟩
  ·rw[if_neg q] at e2;exact H.obj k l o e1 e2
 ·rw[get k hlt] at e2;by_cases q:k=g
  ·rw[if_pos q] at e2;cases e2;subst q;exact H.rofz k l cs e1 hg
  ·rw[if_neg q] at e2;exact H.rofz k l cs2 e1 e2
theorem Step.qg {ι:Inj}{w:World} (H:HRel N ι h w) {g:Nat}{l:Loc} (hl:ι g=some l) {cs cs':List Value}{ro:Bool} (hg:h.get g=some (.cells cs ro)):Step ι h w ι (h.upd g (.cells cs' ro)) w:=by
 have hlt:=Heap.ag hg;have get:=Heap.bF h g (.cells cs' ro);refine⟨H.dom,Nat.le_refl _,Inj.Le.refl ι,fun k l e e'=>(by rw[e'] at e;cases e),fun k l e e'=>(by rw[e'] at e;cases e),fun k _ m=>?_,fun k _ m=>?_,Nat.le_refl _,fun _ _ _=>rfl,fun k _ e=>?_,⟨rfl,rfl,rfl,Nat.le_refl _⟩,fun b C e e'=>(by rw[e'] at e;cases e)⟩
 ·obtain⟨o,e,m⟩:=m;rw[get k hlt] at e;by_cases q:k=g
  ·rw[if_pos q] at e;cases e;subst q;exact⟨_,hg,m⟩
  ·rw[if_neg q] at e;exact⟨o,e,m⟩
 ·obtain⟨o,e,m⟩:=m;rw[get k hlt] at e;by_cases q:k=g
  ·rw[if_pos q] at e;cases e;subst q;exact⟨_,hg,rfl⟩
  ·rw[if_neg q] at e;exact⟨o,e,m⟩
 ·rw[get k hlt,if_neg (fun q=>by rw[q,hl] at e;cases e)]
theorem VLe.flM {α:Type}{enc:α->Value}{l:List α}{s g n cap:Nat}{sp:Option Nat}{h2:Heap} (hq:h2.get g=some (.cells (flatC (l.map enc)) true)) (hn:n=l.length) (hs:∀ x:α,(cl (enc x)).length=s):VLe h2 (.slice (some ⟨g,0,sp⟩) n cap) (ah s enc l):=by
 refine VLe.fl hq (by rw[List.length_map];exact hn) (aZ hs l) (by rw[aX hs,hn];omega) ?_;rw[List.drop_zero,hn,<- aX hs,List.take_length];exact LLe.refl _ _
theorem Own.B9 {b s n cap g:Nat}{sp:Option Nat}{cs es:List Value}{ro:Bool}{h2:Heap} (O:Own B h0 L h) (F:Frozen b h h2) (hb:b<=h0.size) (m:(some g,.cells cs ro)∈L) (hn:n=es.length) (hs:∀ e∈es,(cl e).length=s) (hl:n*s=cs.length) (le:LLe h2 cs (flatC es)):VLe h2 (.slice (some ⟨g,0,sp⟩) n cap) (FL s es):=by
 obtain⟨q1,q2⟩:=O.get g _ m;refine VLe.fl (F.at (Nat.le_trans hb q1) q2) hn hs (by omega) ?_;rw[List.drop_zero,hl,List.take_length];exact le
theorem jt {ι:Inj}{e:Env}{a:Act} (r:ERel ι e a) {t:Nat} (ht:t<e.n) {g o n c:Nat}{sp:Option Nat} (hv:e.get t=.slice (some ⟨g,o,sp⟩) n c):∃ l,ι g=some l:=by
 have:=r.get t ht;rw[hv] at this;generalize a.tmps.getD t undef=y at this
 cases this with
 |slice _ _ _ _ _ l0 q=>exact⟨l0,q⟩
 |sliceOpen _ _ _ _ _ _ _ l0 q=>exact⟨l0,q⟩
theorem LLe.bp {h:Heap}{cs:List Value}{p:Nat}{v v':Value} (hv:VLe h v v'):LLe h (bp cs p [v]) (bp cs p [v']):=by
 unfold Abs.bp;refine⟨by simp,fun i=>?_⟩;simp only[List.getD,List.append_assoc,List.singleton_append,List.length_singleton];by_cases c:i<(cs.take p).length
 ·rw[List.getElem?_append_left c,List.getElem?_append_left c];exact VLe.refl _ _
 ·rw[List.getElem?_append_right (by omega),List.getElem?_append_right (by omega)]
  cases i-(cs.take p).length with
  |zero=>exact hv
  |succ j=>exact VLe.refl _ _
theorem CodeS.ghost {c:Code}{e:Env}{K:X->Env->Heap->Prop} (O:Own B h0 L h) {g gl:Nat}{cs cs2 cs2':List Value}{ro ro2:Bool}{f1 f2:Slot->List Slot} (A1:At (some g,.cells cs ro) L f1) (A2:At (some gl,.cells cs2 ro2) (f1 (some g,.cells cs true)) f2)
  {t1 t2 o1 n1 c1 o2 n2 c2:Nat} {sp1 sp2:Option Nat} (ht1:Nat.blt t1 e.n=true) (hv1:e.get t1=.slice (some ⟨g,o1,sp1⟩) n1 c1) (ht2:Nat.blt t2 e.n=true) (hv2:e.get t2=.slice (some ⟨gl,o2,sp2⟩) n2 c2)
  (le:∀ h2,h2.get g=some (.cells cs true)->LLe h2 cs2 cs2') (k:∀ h,Own B h0 (f2 (some gl,.cells cs2' ro2)) h->CodeS P N c e h K):CodeS P N c e h K:=by
 have hg:=O.at A1.mem;have u1:=Upd.upd (.cells cs true) (Heap.ag hg);have O1:=O.upd A1 u1;have hg2:=O1.at A2.mem;have u2:=Upd.upd (.cells cs2' ro2) (Heap.ag hg2);have O2:=O1.upd A2 u2;refine⟨fun hM hok=>?_⟩;obtain⟨x,e1,h1,hc,hk⟩:=(k _ O2).spec hM hok;refine⟨x,e1,h1,⟨⟨by have:=hc.1.1;rw[u2.size,u1.size] at this;exact this,hc.1.2⟩,fun ι w a H r=>?_⟩,hk⟩;obtain⟨l1,e1'⟩:=jt r (Nat.le_of_ble_eq_true ht1) hv1;obtain⟨l2,e2'⟩:=jt r (Nat.le_of_ble_eq_true ht2) hv2;obtain⟨ι2,H2,S2⟩:=jW H e1' hg;have e2'':=S2.ext.at_ _ _ e2';have H3:=H2.qg hg2 (le _ u1.get);have S3:=Step.qg H2 e2'' hg2 (cs':=cs2');refine wp_mono (hc.2 ι2 w a H3 (r.mono S2.ext)) ?_;rintro x' a' w' ⟨rfl,ι',r',H',S⟩;exact⟨rfl,ι',r',H',(S2.trans S3).trans S⟩
end
end Go.Abs
