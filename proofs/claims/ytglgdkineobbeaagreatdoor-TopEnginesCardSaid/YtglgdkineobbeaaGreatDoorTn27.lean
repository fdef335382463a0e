/- Parts of the proof. -/
import Derived.Test.YtglgdkineobbeaaGreatDoorTn26
namespace Go.Abs
variable {P:Program} {ρ:Operand->Value} {d:Option Tmp} {ty:TypeId} {pos:String} {af:Array Edge} {gd:Option (Nat×Bool)}
theorem JR{op:BinOp}{t yt:TypeId}{x y:Operand}{k:IntKind}{a b c:Int}(hop:op=.shl\/op=.shr)(hx:ρ x=.int k a)(hy:ρ y=.int k b)(hr:cq P (Op.shift op k a k b)=some (.int k c)) :
  aC P ρ { dst:=d,op:=.binOp op t x y yt,type:=ty,pos:=pos,after:=af,guard:=gd }=some (.int k c):=by
 have hp:(Op.binOp op t x y yt).operands.all (λx=>plain (ρ x))=true:=by simp[Op.operands,hx,hy,plain,aR]
 have hpl:plain (.int k c)=true:=rfl
 have this:cq P (execOp ρ { dst:=d,op:=.binOp op t x y yt,type:=ty,pos:=pos,after:=af,guard:=gd })=some (.value (.int k c)):=by
  rcases hop with rfl|rfl <;>
  .simp only[execOp,dQ,hx,hy,binOp,eqGuard];simp only[hr];rfl
 have that:bx P ρ { dst:=d,op:=.binOp op t x y yt,type:=ty,pos:=pos,after:=af,guard:=gd }=some (.int k c):=by
  unfold bx;rw[if_pos hp,this];simp only[hpl,if_true]
 rcases hop with rfl|rfl <;>
 .unfold aC;simp only[hx,hy,quick,fF,if_pos];exact that
end Go.Abs
open BitVec renaming ofInt->NN
open Go.IntKind renaming i64->Pd
open Go.IntWalk renaming i64_in->Ow,u8_in->QU
open Go.Op renaming operands->Mi
open Go.Region renaming wanted->Mz
open Go.Value.int renaming injEq->N5
open Int renaming ofNat->LQ
open List renaming getD->Mh,replicate->LY
open Nat renaming ble->NK
namespace Go.Abs
def aw{α:Type}(first:(α->Prop)->Prop)(rest:α->Prop):Prop:=first rest
def DL{S:Type}(body:S->(S->Prop)->Prop):Nat->S->Prop
 |0,_=>False
 |n+1,s=>body s (DL body n)
def aF{S:Type}(body:S->(S->Prop)->Prop)(s:S):Prop:=∃n,DL body n s
theorem bM{S:Type}{body:S->(S->Prop)->Prop}(Inv:S->Prop)(μ:S->Nat)(step:∀s next,Inv s->(∀s',Inv s'->μ s'<μ s->next s')->body s next){s:S}(h:Inv s):aF body s:=by
 have key:∀n s,Inv s->μ s<n->DL body n s:=by
  intro n
  induction n with
  |zero=>intro s _ h;omega
  |succ n ih=>exact λs hI hn=>step s _ hI λs' h1 h2=>ih s' h1 (by omega)
 exact⟨μ s+1,key _ s h (ML _)⟩
theorem aB{α S:Type}{body:(α->Prop)->S->(S->Prop)->Prop}{rest:α->Prop}(Inv:S->Prop)(μ:S->Nat)(Post:α->Prop)
  (step:∀k s next,Inv s->(∀s',Inv s'->μ s'<μ s->next s')->(∀a,Post a->k a)->body k s next) {s0:S} (h0:Inv s0) (hrest:∀a,Post a->rest a) :
  aw (λk=>aF (λs next=>body k s next) s0) rest :=
 bM Inv μ (λs next hI hn=>step rest s next hI hn hrest) h0
section
variable {P:Program} {N:Nat}
def gG(h:Heap):List (Nat×Value)->Env->Prop
 |[],_=>True
 |(i,v)::r,e=>VLe h (e.get i) v/\gG h r e
theorem ln{h:Heap}:∀{l:List (Nat×Value)}{e:Env},gG h l e->∀t,VLe h (e.get t) ((⟨e.n,dJ l,e.get⟩:Env).get t)
 |[],_,_,_=>VLe.refl _ _
 |(i,v)::r,e,hk,t=>by
  have e1:(⟨e.n,dJ ((i,v)::r),e.get⟩:Env)=(⟨e.n,dJ r,e.get⟩:Env).set i v:=rfl;rw[e1,Env.dq];by_cases c:t=i
  .rw[if_pos c,c];exact hk.1
  .rw[if_neg c];exact ln hk.2 t
theorem aN.Aw{c:Code}{e e':Env}{h h1:Heap}{ex:Exit}{e1:Env}(hn:e'.n=e.n)(hv:∀t,VLe h (e.get t) (e'.get t))(hc:aN P N c e' h ex e1 h1):aN P N c e h ex e1 h1 :=
 ⟨⟨hc.1.1,hc.1.2.trans hn⟩,λι w a H r=>hc.2 ι w a H ⟨r.defers,by rw[hn];exact r.size,λt ht=>hv t N ι w _ H (r.get t (by rw[<- hn];exact ht))⟩⟩
theorem JZ(hM:P.follows .mixedOrders=true){c:Code}{nn:Nat}(hok:codeOk N nn c=true){σ:Type}(I:σ->Heap->Prop)(env:σ->List (Nat×Value))(μ:σ->Nat){e:Env}{h:Heap}{K:X->Env->Heap->Prop}(hn:e.n=nn)
  (start:∃s,I s h/\gG h (env s) e)
  (round:∀s base h,I s h->eI (dJ (env s)) λt=>CodeS P N c ⟨nn,t,base⟩ h λx e1 h1=>match x with
   |.normal=>∃s',μ s'<μ s/\I s' h1/\gG h1 (env s') e1
   |.exit id=>K (.exit id) e1 h1
   |.ret=>K .ret e1 h1):vY P N c e h K:=by
 have key:∀(m:Nat) (s:σ) (e:Env) (h:Heap),μ s=m->e.n=nn->I s h->gG h (env s) e->∃k x e1 h1,jJ P N c k e h (X.bN x) e1 h1/\K x e1 h1:=by
  intro m
  induction m using Nat.strongRecOn with
  |_ m ih =>
   intro s e h hm he hI hh;obtain⟨x,e1,h1,c1,hk⟩:=((bQ _ _).1 (round s e.get h hI)).spec hM hok;have c2:aN P N c e h (X.bN x) e1 h1:=c1.Aw (e':=⟨nn,dJ (env s),e.get⟩) he.symm (λt=>by have:=ln hh t;rw[he] at this;exact this)
   cases x with
   |normal =>
    obtain⟨s',hlt,hI',hh'⟩:=hk;obtain⟨k,x,e2,h2,l2,hk⟩:=ih (μ s') (hm ▸ hlt) s' e1 h1 rfl (c2.1.2.trans he) hI' hh';exact⟨k+1,x,e2,h2,jJ.more c2 l2,hk⟩
   |exit id=>exact⟨1,.exit id,e1,h1,jJ.last c2 (by simp[X.bN]),hk⟩
   |ret=>exact⟨1,.ret,e1,h1,jJ.last c2 (by simp[X.bN]),hk⟩
 obtain⟨s,hI,hh⟩:=start;obtain⟨k,x,e1,h1,l1,hk⟩:=key (μ s) s e h rfl hn hI hh;exact⟨x,e1,h1,aN.loop l1,hk⟩
theorem J5(hM:P.follows .mixedOrders=true){c:Code}{nn:Nat}(hok:codeOk N nn c=true){S σ:Type}{body:S->(S->Prop)->Prop}(π:σ->S)(I:σ->Heap->Prop)(env:σ->List (Nat×Value)){e:Env}{h:Heap}{K:X->Env->Heap->Prop}(hn:e.n=nn)
  (s0:σ) (hm:aF body (π s0)) (start:I s0 h) (hs:gG h (env s0) e)
  (round:∀s next base h,body (π s) next->I s h->eI (dJ (env s)) λt=>CodeS P N c ⟨nn,t,base⟩ h λx e1 h1=>match x with
   |.normal=>∃s',next (π s')/\I s' h1/\gG h1 (env s') e1
   |.exit id=>K (.exit id) e1 h1
   |.ret=>K .ret e1 h1):vY P N c e h K:=by
 obtain⟨n,hm⟩:=hm;refine JZ hM hok (σ:=Nat×σ) (λq h=>DL body q.1 (π q.2)/\I q.2 h) (λq=>env q.2) (λq=>q.1) hn ⟨(n,s0),⟨hm,start⟩,hs⟩ ?_;rintro⟨n,s⟩ base h ⟨hm,hI⟩
 cases n with
 |zero=>exact False.elim hm
 |succ n =>
  rw[bQ];refine⟨λa b=>?_⟩;obtain⟨x,e1,h1,c1,hk⟩:=((bQ _ _).1 (round s _ base h hm hI)).spec a b;refine⟨x,e1,h1,c1,?_⟩
  cases x with
  |normal =>
   obtain⟨s',m',i,hh⟩:=hk;exact⟨(n,s'),ML n,⟨m',i⟩,hh⟩
  |exit id=>exact hk
  |ret=>exact hk
theorem CodeS.Kj{a b:Code}{nn:Nat}{α σ:Type}{first:(α->Prop)->Prop}{rest:α->Prop}(hm:aw first rest)(π:σ->α)(I:σ->Heap->Prop)(env:σ->List (Nat×Value)){e:Env}{h:Heap}{K:X->Env->Heap->Prop}(hn:e.n=nn)
  (hfirst:first rest->CodeS P N a e h λx e1 h1=>match x with
   |.normal=>∃s,rest (π s)/\I s h1/\gG h1 (env s) e1
   |.exit id=>K (.exit id) e1 h1
   |.ret=>K .ret e1 h1)
  (hrest:∀s base h1,rest (π s)->I s h1->eI (dJ (env s)) λt=>CodeS P N b ⟨nn,t,base⟩ h1 K):CodeS P N (.seq a b) e h K:=by
 refine⟨λhM hok=>?_⟩;have hok':=hok;simp only[codeOk,L9] at hok';obtain⟨x,e1,h1,c1,hk⟩:=(hfirst hm).spec hM hok'.1
 cases x with
 |normal =>
  obtain⟨s,hr,hI,hh⟩:=hk;have he:e1.n=nn:=c1.1.2.trans hn;obtain⟨x,e2,h2,c2,hk⟩:=((bQ _ _).1 (hrest s e1.get h1 hr hI)).spec hM (by show codeOk N nn b=true;rw[<- hn];exact hok'.2);have c3:aN P N b e1 h1 (X.bN x) e2 h2:=c2.Aw (e':=⟨nn,dJ (env s),e1.get⟩) he.symm (λt=>by have:=ln hh t;rw[he] at this;exact this);exact⟨x,e2,h2,aN.seq c1 c3,hk⟩
 |exit id=>exact⟨.exit id,e1,h1,aN.oV c1 (by simp[X.bN]),hk⟩
 |ret=>exact⟨.ret,e1,h1,aN.oV c1 (by simp[X.bN]),hk⟩
theorem fnW(hM:P.follows .mixedOrders=true){B:List AObj}{f:FuncId}{fn:Func}{c:Code}(hf:P.funcs[f]?=some fn)(hb:fn.body=some c)(ho:jO N fn=true){vs:Array Value}(hs:vs.size<=fn.ntmps){h:Heap}(hB:aH B h)
  {R:Type} {enc:R->Value} (hp:∀r,aq (enc r)) {K:R->Prop}
  (hk:Own B h [] h->CodeS P N c (cM fn.ntmps vs) h λx e1 h1=>match x with
   |.exit _=>False
   |_=>mu P e1 h1 fn.results.toList λvs=>∃r,K r/\Ext h h1/\∀h2,Frozen h.size h1 h2->VLe h2 (sQ vs) (enc r)):∃r,K r/\al P N f vs h (enc r) h:=by
 obtain⟨v,h',c1,r,hK,e,q⟩:=fnG hM hf hb ho hs (Q:=λv h1=>∃r,K r/\Ext h h1/\∀h2,Frozen h.size h1 h2->VLe h2 v (enc r)) (hk (Own.start hB));exact⟨r,hK,c1.values e (hp r) q (nw hf hb ho).1⟩
theorem FnV.uV{B:List AObj}{f:FuncId}{vs:Array Value}{R:Type}{enc:R->Value}{r:R}(hp:aq (enc r))(hw:∀h,aH B h->∃r',r'=r/\al P N f vs h (enc r') h):FnV P N B f vs (enc r) :=
 ⟨hp,λh hB=>by obtain⟨r',rfl,c⟩:=hw h hB;exact c⟩
theorem FnV.walk{B:List AObj}{f:FuncId}{vs:Array Value}{R:Type}{enc:R->Value}{r:R}(F:FnV P N B f vs (enc r)){K:R->Prop}(hm:K r){h:Heap}(hB:aH B h):∃r,K r/\al P N f vs h (enc r) h:=⟨r,hm,F.call h hB⟩
end
def isLen(o:Op):Bool:=match o with
 |.call { callee:=.builtin .len,.. }=>true
 |.binOp op _ _ y _=>match y with
  |.const (.slice none _ _)=>match op with
   |.eql | .neq=>true
   |_=>false
  |_=>false
 |_=>false
theorem eo{o:Op}(h:isLen o=true):cls o=.pure:=by
 unfold isLen at h;split at h
 .rfl
 .rfl
 .cases h
def wJ(P:Program)(N:Nat)(ops:Array Oper)(l:List Oper)(k:Nat)(e:Env)(h:Heap)(K:Env->Heap->Prop):Prop :=
 match l with
 |[]=>K e h
 |o::r=>match Mz o (aQ ops e) with
  |true=>match isLen o.op with
   |true=>match uU P o.op with
    |true=>opE P N o e h λv h=>pT (fm ops k) e o.dst v λe=>RegS P N ops r (k+1) e h K
    |false=>∃v,aC P e.eval o=some v/\pT (fm ops k) e o.dst v λe=>RegS P N ops r (k+1) e h K
   |false=>opE P N o e h λv h=>pT (fm ops k) e o.dst v λe=>RegS P N ops r (k+1) e h K
  |false=>qO e o.dst undef λe=>RegS P N ops r (k+1) e h K
theorem RegS.FG{P:Program}{N:Nat}{ops:Array Oper}{l:List Oper}{k:Nat}{e:Env}{h:Heap}{K:Env->Heap->Prop}(hk:wJ P N ops l k e h K):RegS P N ops l k e h K:=by
 unfold wJ at hk;split at hk
 .exact⟨e,h,⟨rfl,rfl⟩,hk⟩
 .rename_i o r;split at hk
  .rename_i hw
   have:∃v h',OpE P N o e h v h'/\(pT (fm ops k) e o.dst v λe=>RegS P N ops r (k+1) e h' K):=by
    split at hk
    .rename_i hl;split at hk
     .exact xv hk
     .obtain⟨v,hv,hk⟩:=hk;exact⟨v,h,.inl (OpD.pure (eo hl) hv),hk⟩
    .exact xv hk
   obtain⟨v,h1,hd,hk⟩:=this;obtain⟨e2,h2,hr,hk⟩:=(iT hk).spec;refine⟨e2,h2,?_,hk⟩;unfold lK;rw[if_pos hw];exact⟨v,h1,hd,hr⟩
  .rename_i hw;obtain⟨e2,h2,hr,hk⟩:=(iA.1 hk).spec;refine⟨e2,h2,?_,hk⟩;unfold lK;rw[if_neg (by rw[hw];simp)];exact hr
def tC(P:Program)(N:Nat)(ops:Array Oper)(h0:Heap)(l:List Oper)(k:Nat)(e:Env)(h:Heap)(K:Env->Heap->Prop):Prop :=
 match l with
 |[]=>K e h
 |o::r=>match Mz o (aQ ops e) with
  |true=>match isLen o.op with
   |true=>∃v,aC P e.eval o=some v/\pT (fm ops k) e o.dst v λe=>RegXS P N ops h0 r (k+1) e h K
   |false=>opG P N o e h (Ge P ops h0 k o e h λv h=>pT (fm ops k) e o.dst v λe=>RegXS P N ops h0 r (k+1) e h K)
  |false=>qO e o.dst undef λe=>RegXS P N ops h0 r (k+1) e h K
theorem RegXS.FG{P:Program}{N:Nat}{ops:Array Oper}{h0:Heap}{l:List Oper}{k:Nat}{e:Env}{h:Heap}{K:Env->Heap->Prop}(hk:tC P N ops h0 l k e h K):RegXS P N ops h0 l k e h K:=by
 unfold tC at hk;split at hk
 .exact⟨e,h,⟨rfl,rfl⟩,hk⟩
 .split at hk
  .rename_i hw;split at hk
   .rename_i hl;obtain⟨v,hv,hk⟩:=hk;obtain⟨e2,h2,hr,hk⟩:=(iT hk).spec;refine⟨e2,h2,?_,hk⟩;unfold xN;rw[if_pos hw];refine⟨v,h,⟨OpD.pure (eo hl) hv,?_,?_⟩,hr⟩
    .intro q;unfold aW at q;rw[eo hl] at q;cases q
    .intro q;unfold dp at q;rw[eo hl] at q;cases q
   .refine RegXS.step ?_;unfold pv;simp only[hw];exact hk
  .rename_i hw;refine RegXS.step ?_;unfold pv;simp only[hw];exact hk
theorem Hs{P:Program}{N:Nat}{ops:Array Oper}{l:List Oper}{k:Nat}{e:Env}{h:Heap}{K:Env->Heap->Prop}(hk:wJ P N ops l k e h K):RegS P N ops l k e h K:=RegS.FG hk
theorem Hx{P:Program}{N:Nat}{ops:Array Oper}{h0:Heap}{l:List Oper}{k:Nat}{e:Env}{h:Heap}{K:Env->Heap->Prop}(hk:tC P N ops h0 l k e h K):RegXS P N ops h0 l k e h K:=RegXS.FG hk
def i64(n:Nat):Value:=.int .i64 (LQ n)
def n8(n:Nat):Value:=.int .u8 (LQ n)
def z64(n:Int):Value:=.int .i64 n
def ae{α:Type}(s:Nat)(enc:α->Value)(l:List α):Value:=FL s (l.map enc)
def ltN(a b:Nat):Bool:=ltI (LQ a) (LQ b)
def eqN(a b:Nat):Bool:=LQ a==LQ b
def neN(a b:Nat):Bool:=LQ a != LQ b
theorem bj(a b:Nat):ltN a b=decide (a<b):=by
 unfold ltN;rw[fG];simp
theorem oL(a b:Nat):eqN a b=decide (a=b):=by
 unfold eqN;rw[MW];simp only[L4,beq_iff_eq,decide_eq_true_eq];omega
theorem zt(a b:Nat):neN a b = !decide (a=b):=by
 rw[<- oL];rfl
def eqZ(a b:Int):Bool:=a==b
def neZ(a b:Int):Bool:=a != b
theorem Hd(a b:Int):eqZ a b=decide (a=b):=by unfold eqZ;rw[MW];simp
theorem Ka(a b:Int):neZ a b = !decide (a=b):=by rw[<- Hd];rfl
theorem Dy{a:Nat}(h:a<2^63):Pd.wrap (LQ a)=LQ a:=Ow _ (by simp only[L4];omega)
theorem cg{α:Type}{enc:α->Value}{s:Nat}{l:List α}(p:∀a,ag (cl (enc a))):aq (ae s enc l):=aq.list p
theorem ai{α:Type}{l:List α}{j:Nat}{x:α}(h:l[j]?=some x):j<l.length:=(LX.1 h).1
section
variable {α:Type} {enc:α->Value} {s:Nat} {l:List α} {j:Nat} {x:α}
theorem get_map(h:l[j]?=some x):(l.map enc)[j]?=some (enc x):=by rw[L7,h];rfl
theorem bE(hs:∀x:α,(cl (enc x)).length=s)(l:List α):∀e∈l.map enc,(cl e).length=s:=by
 intro e m;obtain⟨a,_,rfl⟩:=MP.1 m;exact hs a
theorem wY{L:List Value}(hs:∀e∈L,(cl e).length=s){e:Value}(hj:L[j]?=some e):ah L=ah (L.take j)++(cl e++ah (L.drop (j+1)))/\(ah (L.take j)).length=j*s:=by
 obtain⟨hl,rfl⟩:=LX.1 hj;refine⟨?_,by rw[bD λe m=>hs e (OR m),L8,Nb (MG hl)]⟩
 have e:L=L.take j++(L[j]::L.drop (j+1)):=by rw[Rc hl,Na]
 have e':ah L=ah (L.take j++(L[j]::L.drop (j+1))):=congrArg ah e;rw[e',ck];rfl
theorem eK(hs:∀x:α,(cl (enc x)).length=s)(hx:l[j]?=some x){k:Nat}{v:Value}(hv:(cl (enc x))[k]?=some v):(ah (l.map enc))[0+j*s+k]?=some v:=by
 obtain⟨e1,e2⟩:=wY (bE hs l) (get_map (enc:=enc) hx);have hk:k<(cl (enc x)).length:=(LX.1 hv).1;rw[e1,Mg (by omega),e2,Mb (by omega)];rw[<- hv];congr 1;omega
theorem de(hs:∀x:α,(cl (enc x)).length=s)(hx:l[j]?=some x):((ah (l.map enc)).drop (0+j*s)).take s=cl (enc x):=by
 obtain⟨e1,e2⟩:=wY (bE hs l) (get_map (enc:=enc) hx);rw[e1,Nu,<- e2,Ri,Qo (hs x)];rfl
theorem bn(hs:∀x:α,(cl (enc x)).length=s)(l:List α):(ah (l.map enc)).length=l.length*s:=by
 rw[bD (bE hs l),LZ]
theorem dR(hs:∀x:α,(cl (enc x)).length=s)(hj:j<l.length){k n:Nat}(hk:k+n<=s):0+j*s+k+n<=(ah (l.map enc)).length:=by
 rw[bn hs];have:(j+1)*s<=l.length*s:=MY s hj;rw[Nk,Oh] at this;omega
theorem wm(hs:∀x:α,(cl (enc x)).length=s){y:α}(hy:l[j]?=some y){x:α}{k:Nat}{vs:List Value}(hk:k+vs.length<=s)(hx:cl (enc x)=bJ (cl (enc y)) k vs) :
  bJ (ah (l.map enc)) (0+j*s+k) vs=ah ((l.set j x).map enc):=by
 obtain⟨e1,e2⟩:=wY (bE hs l) (get_map (enc:=enc) hy);have hj:=ai hy;have hy2:=hs y
 have e3:ah ((l.set j x).map enc)=ah ((l.map enc).take j)++(cl (enc x)++ah ((l.map enc).drop (j+1))):=by
  rw[Qy,Oa,if_pos (by rw[LZ];exact hj),ck,jK]
 rw[e3,hx,e1,Nu,<- e2];generalize ah ((l.map enc).take j)=A;generalize ah ((l.map enc).drop (j+1))=C;generalize cl (enc y)=M at hy2;unfold bJ;rw[Q3,Mc (by omega:A.length<=A.length+k),Q2,NL (by omega:A.length<=A.length+k+vs.length)];rw[show A.length+k-A.length=k by omega,show A.length+k+vs.length-A.length=k+vs.length by omega];rw[N0 (by omega),List.drop_append_of_le_length (by omega)];simp[MC]
theorem Cm(hs:∀x:α,(cl (enc x)).length=s)(hj:j<l.length){x:α}{vs:List Value}(hv:vs=cl (enc x)):bJ (ah (l.map enc)) (0+j*s) vs=ah ((l.set j x).map enc):=by
 subst hv;have hy:l[j]?=some l[j]:=LU hj;refine wm hs hy (k:=0) (by rw[hs];omega) ?_;unfold bJ;simp only[QB,OO,Nu];rw[NL (by rw[hs,hs];exact LV _),MZ]
theorem zE(l m:List α):l.map enc++m.map enc=(l++m).map enc:=(MT).symm
end
variable {P:Program} {ρ:Operand->Value} {d:Option Tmp} {ty:TypeId} {pos:String} {af:Array Edge} {gd:Option (Nat×Bool)}
theorem Jw{α:Type}{enc:α->Value}{t e:TypeId}{x i:Operand}{s j:Nat}{l:List α}{kk:IntKind}{a:α}{K:Value->Prop}(hu:P.underlying t=some (.slice e))(hs:bb P e=some s)(hx:ρ x=FL s (l.map enc))(hi:ρ i=.int kk (LQ j))(he:l[j]?=some a)(hk:K (FP (enc a))) :
 ∃v,aC P ρ { dst:=d,op:=.indexAddr t x i,type:=ty,pos:=pos,after:=af,guard:=gd }=some v/\K v:=Lk hu hs hx hi (get_map he) hk
theorem LL{t yt:TypeId}{x y:Operand}{a b:Nat}(hx:ρ x=.int .i64 (LQ a))(hy:ρ y=.int .i64 (LQ b))(hb:a*b<2^63) :
  aC P ρ { dst:=d,op:=.binOp .mul t x y yt,type:=ty,pos:=pos,after:=af,guard:=gd }=some (.int .i64 (LQ (a*b))):=by
 refine zO hx hy ?_;simp only[fF,LR,N5,true_and];have:LQ a*LQ b=LQ (a*b):=rfl;rw[this,Ow _ (by simp only[L4];omega)]
theorem Lv{t yt:TypeId}{x y:Operand}{a b:Nat}(hx:ρ x=.int .i64 (LQ a))(hy:ρ y=.int .i64 (LQ b))(hb:0<b)(ha:a<2^63) :
  aC P ρ { dst:=d,op:=.binOp .quo t x y yt,type:=ty,pos:=pos,after:=af,guard:=gd }=some (.int .i64 (LQ (a/b))):=by
 have hp:(Op.binOp .quo t x y yt).operands.all (λx=>plain (ρ x))=true:=by simp[Mi,hx,hy,plain,aR]
 have hpl:plain (.int .i64 (LQ (a/b)))=true:=rfl;have hle:a/b<=a:=Nat.div_le_self a b;have hw:Pd.wrap (LQ (a/b))=LQ (a/b):=Ow _ (by simp only[L4];generalize a/b=q at hle;omega);have hd:Int.tdiv (LQ a) (LQ b)=LQ (a/b):=rfl
 have this:cq P (execOp ρ { dst:=d,op:=.binOp .quo t x y yt,type:=ty,pos:=pos,after:=af,guard:=gd })=some (.value (.int .i64 (LQ (a/b)))):=by
  have hne:¬ LQ b=0:=by simp only[L4];omega
  simp only[execOp,dQ,hx,hy,binOp,eqGuard,ne_eq,not_true_eq_false,if_false,Op.intDiv,hne,hd,hw];rfl
 have that:bx P ρ { dst:=d,op:=.binOp .quo t x y yt,type:=ty,pos:=pos,after:=af,guard:=gd }=some (.int .i64 (LQ (a/b))):=by
  unfold bx;rw[if_pos hp,this];simp only[hpl,if_true]
 unfold aC;simp only[hx,hy,quick,fF,if_pos];exact that
theorem DY{h:Heap}{s t:TypeId}{x:Operand}{k k':IntKind}{a b:Int}(hs:P.underlying s=some (.int k))(ht:P.underlying t=some (.int k'))(hx:ρ x=.int k a)(hw:k'.wrap a=b) :
  bp P ρ { dst:=d,op:=.convert s t x,type:=ty,pos:=pos,after:=af,guard:=gd } h=some (.int k' b):=by
 unfold bp;simp only[hs,ht];unfold bx
 have h1:(Op.convert s t x).operands.all (λx=>plain (ρ x))=true:=by
  simp[Mi,hx,plain,aR]
 rw[if_pos h1]
 have e1:∀u du,P.underlying u=some du->cq P (underlying u)=some du:=by
  intro u du hu;simp only[underlying,dQ]
  show Option.bind (some P) _=_
  simp only[Oo,hu];rfl
 have h2:cq P (execOp ρ { dst:=d,op:=.convert s t x,type:=ty,pos:=pos,after:=af,guard:=gd })=some (.value (.int k' b)):=by
  simp only[execOp,convert,dQ,e1 _ _ hs,e1 _ _ ht,Oo,hx,Conv.intToInt,hw];rfl
 rw[h2];rfl
theorem H5{t u:TypeId}{x y:Operand}{k:IntKind}{a b:Nat}(hx:ρ x=.int k (LQ a))(hy:ρ y=.int k (LQ b)) :
  aC P ρ { dst:=d,op:=.call { callee:=.builtin .min,args := #[x,y],argTypes := #[t,u] },type:=ty,pos:=pos,after:=af,guard:=gd }=some (.int k (LQ (min a b))):=by
 unfold aC;simp only[MM,ND,hx,hy,if_true]
 cases h:ltI (LQ b) (LQ a) with
 |true=>rw[fG] at h;simp at h;rw[Nat.min_eq_right (by omega)]
 |false=>rw[fG] at h;simp at h;rw[Nb (by omega)]
theorem LJ{t u:TypeId}{x y:Operand}{k:IntKind}{a b:Nat}(hx:ρ x=.int k (LQ a))(hy:ρ y=.int k (LQ b)) :
  aC P ρ { dst:=d,op:=.call { callee:=.builtin .max,args := #[x,y],argTypes := #[t,u] },type:=ty,pos:=pos,after:=af,guard:=gd }=some (.int k (LQ (max a b))):=by
 unfold aC;simp only[MM,ND,hx,hy,if_true]
 cases h:ltI (LQ a) (LQ b) with
 |true=>rw[fG] at h;simp at h;rw[Nat.max_eq_right (by omega)]
 |false=>rw[fG] at h;simp at h;rw[Nat.max_eq_left (by omega)]
theorem KC{t e:TypeId}{x:Operand}{b:Option Addr}{n c:Nat}{K:Value->Prop}(hu:P.underlying t=some (.slice e))(hx:ρ x=.slice b n c)(hk:K (.int .i64 (LQ n))) :
  ∃v,aC P ρ { dst:=d,op:=.call { callee:=.builtin .len,args := #[x],argTypes := #[t] },type:=ty,pos:=pos,after:=af,guard:=gd }=some v/\K v:=by
 refine⟨_,?_,hk⟩;unfold aC;have e2:(#[t][0]?).bind P.underlying=some (.slice e):=hu;simp only[e2,MM,ND,hx];rfl
theorem LA{α:Type}{enc:α->Value}{s:Nat}{t e:TypeId}{x:Operand}{l:List α}{K:Value->Prop}(hu:P.underlying t=some (.slice e))(hx:ρ x=FL s (l.map enc))(hk:K (.int .i64 (LQ l.length))) :
  ∃v,aC P ρ { dst:=d,op:=.call { callee:=.builtin .len,args := #[x],argTypes := #[t] },type:=ty,pos:=pos,after:=af,guard:=gd }=some v/\K v:=by
 refine⟨_,?_,hk⟩;unfold aC;have e2:(#[t][0]?).bind P.underlying=some (.slice e):=hu;simp only[e2,MM,ND,hx,FL,LZ];rfl
theorem Lw{α:Type}{enc:α->Value}{t e:TypeId}{x:Operand}{l:List α}{b:Option Addr}{c:Nat}{K:Value->Prop}(hu:P.underlying t=some (.slice e))(hx:ρ x=.slice b (l.map enc).length c)(hk:K (.int .i64 (LQ l.length))) :
  ∃v,aC P ρ { dst:=d,op:=.call { callee:=.builtin .len,args := #[x],argTypes := #[t] },type:=ty,pos:=pos,after:=af,guard:=gd }=some v/\K v :=
 KC hu hx (by rw[LZ];exact hk)
theorem tS{fn:Fn}{first captured:Array Operand}{l m:List Value}{K:Value->Prop}(h1:first.toList.map ρ=l)(h2:captured.toList.map ρ=m)(hk:K (.func fn ⟨l⟩ ⟨m⟩)) :
  ∃v,aC P ρ { dst:=d,op:=.makeFunc fn first captured,type:=ty,pos:=pos,after:=af,guard:=gd }=some v/\K v:=by
 refine⟨_,?_,hk⟩;subst h1 h2
 have e:∀a:Array Operand,a.map ρ=⟨a.toList.map ρ⟩:=λa=>by
  obtain⟨l⟩:=a;simp
 unfold aC;simp only[e]
theorem JU{t yt:TypeId}{x y:Operand}{a b:Nat}(hx:ρ x=.int .u8 (LQ a))(hy:ρ y=.int .u8 (LQ b))(hle:b<=a)(hb:a<256) :
  aC P ρ { dst:=d,op:=.binOp .sub t x y yt,type:=ty,pos:=pos,after:=af,guard:=gd }=some (.int .u8 (LQ (a-b))):=by
 refine zO hx hy ?_;simp only[fF,LR,N5,true_and];rw[QU _ (by simp only[L4];omega)];simp only[L4];omega
theorem J0{t yt:TypeId}{x y:Operand}{a b:Nat}(hx:ρ x=.int .u8 (LQ a))(hy:ρ y=.int .u8 (LQ b))(ha:a<256)(hb:b<256) :
  aC P ρ { dst:=d,op:=.binOp .xor t x y yt,type:=ty,pos:=pos,after:=af,guard:=gd }=some (.int .u8 (LQ (a ^^^ b))):=by
 refine AL (.inr (.inr (.inl rfl))) hx hy ?_;unfold Op.intBits
 show some (Value.int .u8 (IntKind.u8.wrap ((NN 8 (LQ a) ^^^ NN 8 (LQ b)).toNat:Nat)))=_
 have e:∀n:Nat,n<256->(NN 8 (LQ n)).toNat=n:=λn hn=>by
  simp only[L4,BitVec.ofInt_natCast,BitVec.toNat_ofNat];omega
 rw[BitVec.toNat_xor,e a ha,e b hb];have h:a ^^^ b<2^8:=Nat.xor_lt_two_pow ha hb;rw[QU _ (by omega)];rfl
section
variable {α:Type} {enc:α->Value} {t e:TypeId} {x lo hi mx:Operand} {s k:Nat} {l:List α} {kk kk':IntKind} {K:Value->Prop}
theorem Dt(q:IntKind){a b:Nat}(h:a<=b):bnd (.int q (LQ a)) b=some a:=if_pos ⟨MN _,Pf.2 h⟩
end
section
variable {N:Nat} {B:List AObj} {h0 h:Heap} {L:List Slot}
def AV(L:List Slot):List Nat->List Slot
 |[]=>[]
 |i::r=>match L[i]? with
  |some x=>x::AV L r
  |none=>AV L r
theorem oz{L:List Slot}:∀{I:List Nat}{x:Slot},x∈AV L I->∃i∈I,L[i]?=some x
 |[],_,m=>by cases m
 |i::r,x,m=>by
  unfold AV at m;split at m
  .rename_i y hy
   rcases MF.1 m with rfl|m
   .exact⟨i,.head _,hy⟩
   .obtain⟨k,h1,h2⟩:=oz m;exact⟨k,.tail _ h1,h2⟩
  .obtain⟨k,h1,h2⟩:=oz m;exact⟨k,.tail _ h1,h2⟩
theorem Own.sel(O:Own B h0 L h)(I:List Nat)(hI:I.Nodup):Own B h0 (AV L I) h:=by
 refine O.sub (λx m=>?_) ?_
 .obtain⟨i,_,e⟩:=oz m;exact LS e
 .have two:∀(i j:Nat) (x y:Slot),i≠j->L[i]?=some x->L[j]?=some y->lr x y:=by
   intro i j x y hne hx hy;obtain⟨hi,rfl⟩:=LX.1 hx;obtain⟨hj,rfl⟩:=LX.1 hy;have hp:=Nv.1 O.apart
   rcases Nat.lt_or_gt_of_ne hne with q|q
   .exact hp i j hi hj q
   .intro g e e';exact hp j i hj hi q g e' e
  induction I with
  |nil=>exact .nil
  |cons i r ih =>
   obtain⟨h1,h2⟩:=Rj.1 hI;unfold AV;split
   .rename_i y hy;refine MU.2 ⟨λx m=>?_,ih h2⟩;obtain⟨k,k1,k2⟩:=oz m;exact two i k y x (λe=>h1 (e ▸ k1)) hy k2
   .exact ih h2
theorem Own.KU{α:Type}{enc:α->Value}{z:α}{t e:TypeId}{x y:Operand}{n b s:Nat}{K:Value->Heap->Prop}(O:Own B h0 L h)(hu:P.underlying t=some (.slice e))(hs:bb P e=some s)(hb:kH P e=some b)(hz:zeroOf P e=some (enc z))(hz1:(enc z).cells.size=s)(hpos:0<s)(hp:(enc z).cells.all aR=true)
  (hx:ρ x=.int .i64 (LQ n)) (hy:ρ y=.int .i64 (LQ n)) (hn:b*n<=2^48) (hn2:n<2^63)
  (k:∀g h1,Own B h0 ((some g,.cells (ah ((LY n z).map enc)) false)::L) h1->K (.slice (some ⟨g,0,none⟩) n n) h1) :
  NewG P ρ { dst:=d,op:=.makeSlice t x y,type:=ty,pos:=pos,after:=af,guard:=gd } h K:=by
 refine O.new (yS hu hs hb hz hz1 hpos hp hx hy hn hn2) λg h1 O=>k g h1 ?_;rw[OK];exact O
theorem Own.xa{α:Type}{enc:α->Value}{z:α}{t e:TypeId}{x y:Operand}{n b s:Nat}{K:Value->Heap->Prop}(O:Own B h0 L h)(hu:P.underlying t=some (.slice e))(hs:bb P e=some s)(hb:kH P e=some b)(hz:zeroOf P e=some (enc z))(hz1:(enc z).cells.size=s)(hpos:0<s)(hp:(enc z).cells.all aR=true)
  (hx:ρ x=.int .i64 (LQ n)) (hy:ρ y=.int .i64 (LQ n)) (hn:b*n<=2^48) (hn2:n<2^63)
  (k:∀g h1,Own B h0 ((some g,.cells (ah ((LY n z).map enc)) false)::L) h1->K (.slice (some ⟨g,0,none⟩) n n) h1) :
  ∃ob f,ew P ρ { dst:=d,op:=.makeSlice t x y,type:=ty,pos:=pos,after:=af,guard:=gd }=some (ob,f)/\∀h1,New h ob h1->K (f h.size) h1:=by
 refine O.oN (yS hu hs hb hz hz1 hpos hp hx hy hn hn2) λg h1 O=>k g h1 ?_;rw[OK];exact O
theorem Own.sW{α:Type}{enc:α->Value}{l:List α}{t e:TypeId}{n s:Nat}{ps:Array (Nat×Operand)}{z:Value}{K:Value->Heap->Prop}(O:Own B h0 L h)(hu:P.underlying t=some (.slice e))(hs:bb P e=some s)(hz:zeroOf P e=some z)(hp:z.cells.all aR=true)(hpos:NK 1 (n*s)=true)(hle:NK (n*s) (2^24)=true)
  (hv:ps.toList.map (λp=>(p.1,ρ p.2))=parts 0 (l.map enc)) (hn:(l.map enc).length=n) (hc:∀x:α,(cl (enc x)).length=s)
  (k:∀g h1,Own B h0 ((some g,.cells (ah (l.map enc)) false)::L) h1->K (.slice (some ⟨g,0,none⟩) n n) h1) :
  NewG P ρ { dst:=d,op:=.buildSlice t n ps,type:=ty,pos:=pos,after:=af,guard:=gd } h K :=
 O.new (CI hu hs hz hp hpos hle hv hn (bE hc l)) k
theorem Own.eA{α:Type}{enc:α->Value}{l:List α}{t e:TypeId}{n s:Nat}{ps:Array (Nat×Operand)}{z:Value}{K:Value->Heap->Prop}(O:Own B h0 L h)(hu:P.underlying t=some (.slice e))(hs:bb P e=some s)(hz:zeroOf P e=some z)(hp:z.cells.all aR=true)(hpos:NK 1 (n*s)=true)(hle:NK (n*s) (2^24)=true)
  (hv:ps.toList.map (λp=>(p.1,ρ p.2))=parts 0 (l.map enc)) (hn:(l.map enc).length=n) (hc:∀x:α,(cl (enc x)).length=s)
  (k:∀g h1,Own B h0 ((some g,.cells (ah (l.map enc)) false)::L) h1->K (.slice (some ⟨g,0,none⟩) n n) h1) :
  ∃ob f,ew P ρ { dst:=d,op:=.buildSlice t n ps,type:=ty,pos:=pos,after:=af,guard:=gd }=some (ob,f)/\∀h1,New h ob h1->K (f h.size) h1 :=
 O.oN (CI hu hs hz hp hpos hle hv hn (bE hc l)) k
structure YOk {α:Type} (h:Heap) (s:Nat) (v:Value) (enc:α->Value) (new:List α):Prop where
 len:lenOf v=some new.length
 first:bT h s new.length v=some (ah (new.map enc))
theorem YOk.fl{α:Type}{h:Heap}{s:Nat}{v:Value}{enc:α->Value}{new:List α}(hy:v=FL s (new.map enc)):YOk h s v enc new:=by
 subst hy;refine⟨?_,?_⟩
 .show some (new.map enc).length=_
  rw[LZ]
 .unfold bT FL
  cases hq:new.map enc with
  |nil=>simp[ah]
  |cons v r =>
   have:Nat.beq s s=true:=Ra s;simp only[this];rw[Mc (by rw[<- hq,LZ];exact LV _)]
theorem YOk.own{α:Type}{h:Heap}{s g n cap:Nat}{sp:Option Nat}{ro:Bool}{v:Value}{enc:α->Value}{new:List α}(hg:h.get g=some (.cells (ah (new.map enc)) ro))(hv:v=.slice (some ⟨g,0,sp⟩) n cap)(hs:∀x:α,(cl (enc x)).length=s)(hn:n=new.length):YOk h s v enc new:=by
 subst hv hn;exact⟨rfl,B5 hg (bn hs new).symm⟩
theorem Own.fb{α:Type}{enc:α->Value}{l new:List α}{ts tx te:TypeId}{dx:TypeDesc}{x y:Operand}{s b:Nat}{a:Option Nat}{z:Value}{f:Slot->List Slot}{K:Value->Heap->Prop}(O:Own B h0 L h)(A:At (a,.cells (ah (l.map enc)) false) L f)(ha:a=none->l=[])
  (hts:P.underlying ts=some (.slice te)) (htx:P.underlying tx=some dx) (hni:fh dx=true) (hs:bb P te=some s) (hb:kH P te=some b) (hz:zeroOf P te=some z) (hzs:z.cells.size=s)
  (hx:ρ x=ak s a (l.map enc)) (hy:YOk h s (ρ y) enc new) (hsz:∀x:α,(cl (enc x)).length=s) (hone:∀x:α,(cl (enc x)).all Value.oneCell'=true)
  (hb0:0<b) (hlim:(l.length+new.length)*b<=2^47)
  (k:∀a' h1,(a'=none->l++new=[])->Own B h0 (f (a',.cells (ah ((l++new).map enc)) false)) h1->K (ak s a' ((l++new).map enc)) h1) :
  ∃(v:Value) (T:Heap->Prop),(∃h',cZ P ρ { dst:=d,op:=.call { callee:=.builtin .append,args := #[x,y],argTypes := #[ts,tx] },type:=ty,pos:=pos,after:=af,guard:=gd } h=some (v,h')/\T h')/\∀h1,T h1->K v h1:=by
 have hlen:=hy.len;have hfirst:=hy.first;refine O.append A (λe=>by rw[ha e];rfl) hts htx hni hs hb hz hzs hx hlen hfirst (LZ ..) (λe m=>?_) ?_ hb0 (by rw[LZ];exact hlim) (zE l new) λa' h1 h2 O=>k a' h1 (λe=>by simpa using h2 e) O
 .rw[zE] at m;exact bE hsz _ e m
 .rw[Md];intro v m;simp only[ah,N8,MP] at m;obtain⟨_,⟨a,_,rfl⟩,m⟩:=m;exact Md.1 (hone a) v m
theorem Own.jP{α:Type}{enc:α->Value}{l:List α}{b s:Nat}{a:Option Nat}{ro:Bool}{h2:Heap}(O:Own B h0 L h)(F:Frozen b h h2)(hb:b<=h0.size)(m:(a,.cells (ah (l.map enc)) ro)∈L)(ha:a=none->l=[])(hs:∀x:α,(cl (enc x)).length=s):VLe h2 (ak s a (l.map enc)) (ae s enc l) :=
 O.grown F hb m (λe=>by rw[ha e];rfl) (bE hs l)
theorem Own.jC{α:Type}{enc:α->Value}{l:List α}{b s n cap g:Nat}{sp:Option Nat}{ro:Bool}{h2:Heap}(O:Own B h0 L h)(F:Frozen b h h2)(hb:b<=h0.size)(m:(some g,.cells (ah (l.map enc)) ro)∈L)(hs:∀x:α,(cl (enc x)).length=s)(hn:n=l.length):VLe h2 (.slice (some ⟨g,0,sp⟩) n cap) (ae s enc l) :=
 O.flat F hb m rfl (by rw[LZ];exact hn) (bE hs l)
theorem al.Lp{f:FuncId}{l l':List Value}{v:Value}{h':Heap}(c:al P N f ⟨l⟩ h v h')(a:LLe h l' l):al P N f ⟨l'⟩ h v h' :=
 ⟨c.1,λι w vs' H r=>c.2 ι w vs' H (a.E6 H r)⟩
def kL(h:Heap):Nat->Heap
 |0=>h
 |k+1=>match (kL h k).get k with
  |some ob=>(kL h k).upd k ob.fz
  |none=>kL h k
theorem yN(h:Heap):∀k,(kL h k).size=h.size/\∀g,(kL h k).get g=if g<k then (h.get g).map AObj.fz else h.get g
 |0=>⟨rfl,λg=>by rw[if_neg (Mu g)];rfl⟩
 |k+1=>by
  obtain⟨s1,g1⟩:=yN h k;unfold kL
  cases e:(kL h k).get k with
  |none =>
   refine⟨s1,λg=>?_⟩
   have e0:h.get k=none:=by
    have:=g1 k;rw[if_neg (Ot k)] at this;rw[<- this];exact e
   rw[g1];by_cases q:g=k
   .subst q;rw[if_neg (Ot g),if_pos (ML g),e0];rfl
   .by_cases q2:g<k
    .rw[if_pos q2,if_pos (by omega)]
    .rw[if_neg q2,if_neg (by omega)]
  |some ob =>
   have e0:h.get k=some ob:=by
    have:=g1 k;rw[if_neg (Ot k)] at this;rw[<- this];exact e
   refine⟨s1,λg=>?_⟩;simp only;rw[Heap.cc _ _ _ _ (Heap.ai e)];by_cases q:g=k
   .subst q;rw[if_pos rfl,if_pos (ML g),e0];rfl
   .rw[if_neg q,g1];by_cases q2:g<k
    .rw[if_pos q2,if_pos (by omega)]
    .rw[if_neg q2,if_neg (by omega)]
theorem HRel.kL{ι:Inj}{w:World}(H:HRel N ι h w):∀k,∃ι':Inj,HRel N ι' (kL h k) w/\FzStep ι ι'
 |0=>⟨ι,H,FzStep.refl ι⟩
 |k+1=>by
  obtain⟨ι1,H1,f1⟩:=HRel.kL H k;unfold Abs.kL
  cases e:(Abs.kL h k).get k with
  |none=>exact⟨ι1,H1,f1⟩
  |some ob =>
   obtain⟨ι2,H2,f2⟩:=H1.zK e;exact⟨ι2,H2,f1.trans f2⟩
theorem zH(h:Heap):Frozen 0 h (kL h h.size):=by
 obtain⟨s1,g1⟩:=yN h h.size;refine⟨s1,λg=>?_⟩;rw[g1,if_pos (L1 _)];by_cases q:g<h.size
 .rw[if_pos q]
 .rw[if_neg q]
  cases e:h.get g with
  |none=>rfl
  |some ob=>exact absurd (Heap.ai e) q
theorem al.Ew{f:FuncId}{l l':List Value}{R:Type}{enc:R->Value}{Q:R->Prop}{K:Value->Heap->Prop}(F:∀h2,aH B h2->∃r,Q r/\al P N f ⟨l⟩ h2 (enc r) h2)(hr:∀r,oR (enc r)=true)(hB:∀o∈B,o.fz=o)(hb:aH B h)(a:∀h2,Frozen 0 h h2->LLe h2 l' l)(fok:lp P f=true)
  (k:∀r,Q r->K (enc r) h):∃v h',al P N f ⟨l'⟩ h v h'/\K v h':=by
 have Fz:=zH h
 have hb2:aH B (kL h h.size):=λi o q=>by
  rw[Fz.get,if_pos (L1 _),hb i o q]
  show some o.fz=_
  rw[hB o (LS q)]
 obtain⟨r,hq,c⟩:=F _ hb2;refine⟨enc r,h,⟨LV _,λι w vs' H ra=>?_⟩,k r hq⟩;obtain⟨ι2,H2,fs⟩:=H.kL h.size
 have nomut:∀g,¬ (kL h h.size).mut g:=λg ⟨o,e,m⟩=>by
  rw[Fz.get,if_pos (L1 _)] at e
  cases q:h.get g with
  |none=>simp[q] at e
  |some o' =>
   rw[q] at e;simp only[MI,LR] at e;subst e;rw[AObj.HZ] at m;cases m
 have ra2:bB ι2 ⟨l⟩ vs':=(a _ Fz).E6 H2 (ra.mono fs.le)
 rcases c.2 ι2 w vs' H2 ra2 with⟨ok,hc⟩|⟨v',e1,e2,_⟩
 .refine .inl ⟨ok,hc.mono λe' w' q=>?_⟩;obtain⟨ι',v',rfl,r',_,S⟩:=q;rw[r'.rK (hr r)];have hf:∀b,b<w.heap.size->w'.heap[b]?=w.heap[b]?:=λb hb=>S.frame b hb λg l _ m=>absurd m (nomut g);exact⟨ι,enc r,rfl,VRel.mY (hr r),H.grow S.wsize hf,Step.grow H.dom S.wsize hf S.out⟩
 .exfalso;have:=fj (w:=w) fok vs';rw[this] at e1
  cases e1
theorem Own.Ky{f:FuncId}{l l':List Value}{R:Type}{enc:R->Value}{Q:R->Prop}{K:Value->Heap->Prop}(O:Own B h0 L h)(F:∀h2,aH B h2->∃r,Q r/\al P N f ⟨l⟩ h2 (enc r) h2){g:Nat}{cs:List Value}{ro:Bool}{fL:Slot->List Slot}(A:At (some g,.cells cs ro) L fL){i off n cap:Nat}{sp:Option Nat}
  (hi:l'[i]?=some (.slice (some ⟨g,off,sp⟩) n cap)) (fok:lp P f=true) (a:∀h2,h2.get g=some (.cells cs true)->LLe h2 l' l) (k:∀r h1,Q r->Own B h0 (fL (some g,.cells cs true)) h1->K (enc r) h1) :
  ∃v h',al P N f ⟨l'⟩ h v h'/\K v h':=by
 have hg:=O.at A.mem;have u:=Upd.upd (.cells cs true) (Heap.ai hg);have O1:=O.upd A u;obtain⟨r,hq,c⟩:=F _ O1.has;refine⟨enc r,h.upd g (.cells cs true),⟨LV _,λι w vs' H ra=>?_⟩,k r _ hq O1⟩
 have hmap:∃l0,ι g=some l0:=by
  have:=ra.2 i;rw[<- fE] at this;simp only[Mh,hi,NI] at this;generalize vs'.getD i undef=y at this
  cases this with
  |slice _ _ _ _ _ l0 q=>exact⟨l0,q⟩
  |sliceOpen _ _ _ _ _ _ _ l0 q=>exact⟨l0,q⟩
 obtain⟨l0,hl0⟩:=hmap;obtain⟨ι2,H2,S2⟩:=jQ H hl0 hg;have ra2:bB ι2 ⟨l⟩ vs':=(a _ u.get).E6 H2 (ra.mono S2.ext)
 rcases c.2 ι2 w vs' H2 ra2 with⟨ok,hc⟩|⟨v',e1,e2,_⟩
 .refine .inl ⟨ok,hc.mono λe' w' q=>?_⟩;obtain⟨ι',v',rfl,r',H',S⟩:=q;exact⟨ι',v',rfl,r',H',S2.trans S⟩
 .exfalso;have:=fj (w:=w) fok vs';rw[this] at e1
  cases e1
theorem lb{α:Type}{l:List α}{a:Option Nat}{j:Nat}{x:α}(ha:a=none->l=[])(hx:l[j]?=some x):∃g,a=some g:=by
 cases a with
 |none=>rw[ha rfl] at hx;simp at hx
 |some g=>exact⟨g,rfl⟩
theorem G1{α:Type}{l:List α}{a:Option Nat}(ha:a=none->l=[])(hx:0<l.length):∃g,a=some g:=by
 cases a with
 |none=>rw[ha rfl] at hx;simp at hx
 |some g=>exact⟨g,rfl⟩
theorem Own.IS{x y:AObj}{f:Slot->List Slot}(O:Own B h0 L h)(A:At (none,x) L f):Own B h0 (f (none,y)) h:=by
 refine⟨O.base,O.ext,λg o m=>?_,A.apart O.apart λx m hx=>?_⟩
 .rcases A.mem_of m with e|m
  .cases e
  .exact O.get g o m
 .exact .inl ⟨(λg e=>by cases e),(λg e e'=>by cases e')⟩
def ib(a:Option Nat)(l:List Value):Value:=.slice (a.map λg=>⟨g,0,none⟩) l.length l.length
theorem so{α:Type}{enc:α->Value}{t e:TypeId}{x hi mx:Operand}{s n m:Nat}{a:Option Nat}{l:List α}{kk kk':IntKind}{K:Value->Prop}(hu:P.underlying t=some (.slice e))(hs:bb P e=some s)(hx:ρ x=ak s a (l.map enc))(hhi:ρ hi=.int kk (LQ n))(hmx:ρ mx=.int kk' (LQ m))(hn:n=l.length)(hm:m=l.length)
  (hk:K (ib a (l.map enc))):∃v,aC P ρ { dst:=d,op:=.slice t x none (some hi) (some mx),type:=ty,pos:=pos,after:=af,guard:=gd }=some v/\K v:=by
 subst hn hm;refine⟨_,?_,hk⟩;have h1:∀q,bnd (.int q (LQ l.length)) l.length=some l.length:=λq=>if_pos ⟨MN _,Pf.2 (LV _)⟩;unfold aC;simp only[hu,hx,ak,hs,MI,Oi,hhi,hmx,LZ];unfold il;simp only[h1]
 cases a with
 |none=>simp[ib]
 |some g=>simp[ib]
theorem Own.rn{α:Type}{enc:α->Value}{l:List α}{b s:Nat}{a:Option Nat}{ro:Bool}{h2:Heap}(O:Own B h0 L h)(F:Frozen b h h2)(hb:b<=h0.size)(m:(a,.cells (ah (l.map enc)) ro)∈L)(ha:a=none->l=[])(hs:∀x:α,(cl (enc x)).length=s):VLe h2 (ib a (l.map enc)) (ae s enc l):=by
 cases a with
 |none =>
  have:=ha rfl;subst this;exact VLe.nil _ _
 |some g=>exact O.flat F hb m rfl rfl (bE hs l)
theorem Own.Lh{α:Type}{enc':α->Value}{la:List α}{s:Nat}{a:Option Nat}{f:FuncId}{l l':List Value}{R:Type}{enc:R->Value}{Q:R->Prop}{K:Value->Heap->Prop}(O:Own B h0 L h)(F:∀h2,aH B h2->∃r,Q r/\al P N f ⟨l⟩ h2 (enc r) h2){ro:Bool}{fL:Slot->List Slot}(A:At (a,.cells (ah (la.map enc')) ro) L fL)(ha:a=none->la=[])(hs:∀x:α,(cl (enc' x)).length=s){i:Nat}
  (hi:l'[i]?=some (ak s a (la.map enc'))) (fok:lp P f=true) (le:∀h2,VLe h2 (ak s a (la.map enc')) (ae s enc' la)->LLe h2 l' l) (k:∀r h1,Q r->Own B h0 (fL (a,.cells (ah (la.map enc')) true)) h1->K (enc r) h1) :
  ∃v h',al P N f ⟨l'⟩ h v h'/\K v h':=by
 cases a with
 |none =>
  have:=ha rfl;subst this;obtain⟨r,hq,c⟩:=F _ O.has;exact⟨_,_,c.Lp (le h (VLe.nil _ _)),k r _ hq (O.IS A)⟩
 |some g =>
  refine O.Ky F A hi fok (λh2 hg=>le h2 ?_) k;refine VLe.fl hg rfl (bE hs la) (by rw[bn hs,LZ];omega) ?_;rw[M0,<- bD (bE hs la),Ng];exact LLe.refl _ _
theorem Own.Ey{α:Type}{enc':α->Value}{la:List α}{s g n cap:Nat}{sp:Option Nat}{f:FuncId}{l l':List Value}{R:Type}{enc:R->Value}{Q:R->Prop}{K:Value->Heap->Prop}(O:Own B h0 L h)(F:∀h2,aH B h2->∃r,Q r/\al P N f ⟨l⟩ h2 (enc r) h2){ro:Bool}{fL:Slot->List Slot}(A:At (some g,.cells (ah (la.map enc')) ro) L fL)(hn:n=la.length)(hs:∀x:α,(cl (enc' x)).length=s){i:Nat}
  (hi:l'[i]?=some (.slice (some ⟨g,0,sp⟩) n cap)) (fok:lp P f=true) (le:∀h2,VLe h2 (.slice (some ⟨g,0,sp⟩) n cap) (ae s enc' la)->LLe h2 l' l) (k:∀r h1,Q r->Own B h0 (fL (some g,.cells (ah (la.map enc')) true)) h1->K (enc r) h1) :
  ∃v h',al P N f ⟨l'⟩ h v h'/\K v h':=by
 refine O.Ky F A hi fok (λh2 hg=>le h2 ?_) k;refine VLe.fl hg (by rw[LZ];exact hn) (bE hs la) (by rw[bn hs,hn];omega) ?_;rw[M0,hn,<- LZ (f:=enc'),<- bD (bE hs la),Ng];exact LLe.refl _ _
theorem Own.C3{α:Type}{enc:α->Value}{l:List α}{s n g:Nat}{ro:Bool}(O:Own B h0 L h)(m:(some g,.cells (ah (l.map enc)) ro)∈L)(hs:∀x:α,(cl (enc x)).length=s)(hn:n=l.length)(hpos:0<l.length):VLe h (.slice (some ⟨g,0,none⟩) n n) (ak s (some g) (l.map enc)):=λN ι w v' H r=>by
 subst hn
 cases r with
 |slice _ _ _ _ o l0 hι hle ho =>
  obtain⟨C,ty,fr,_,_,h3,h4,_⟩:=H.obj g l0 _ hι (O.at m);rw[bn hs] at h4;unfold ak;rw[LZ];exact .sliceOpen g 0 s _ _ _ o l0 hι hle (LV _) ho (by rw[ho (by omega)];omega)
theorem Own.Gc(F:List Slot)(O:Own B h0 (F++L) h)(I:List Nat)(hI:I.Nodup):Own B h0 (AV F I++L) h:=by
 have hap:=Pt.1 O.apart;have OF:Own B h0 F h:=⟨O.base,O.ext,λg o m=>O.get g o (MA _ m),hap.1⟩;have Os:=OF.sel I hI
 have sub:∀x∈AV F I,x∈F:=λx m=>by
  obtain⟨i,_,e⟩:=oz m;exact LS e
 refine O.sub (λx m=>?_) (Pt.2 ⟨Os.apart,hap.2.1,λx m y m'=>hap.2.2 x (sub x m) y m'⟩)
 rcases MB.1 m with m|m
 .exact MA _ (sub x m)
 .exact Nd _ m
theorem HRel.nk{ι:Inj}{w:World}(H:HRel N ι h w){g:Nat}{cs cs':List Value}{ro:Bool}(hg:h.get g=some (.cells cs ro))(hle:LLe h cs cs'):HRel N ι (h.upd g (.cells cs' ro)) w:=by
 have hlt:=Heap.ai hg;have get:=Heap.cc h g (.cells cs' ro)
 have mutB:∀k,(h.upd g (.cells cs' ro)).mut k->h.mut k:=λk ⟨o,e,m⟩=>by
  rw[get k hlt] at e;by_cases q:k=g
  .rw[if_pos q] at e;cases e;subst q;exact⟨_,hg,m⟩
  .rw[if_neg q] at e;exact⟨o,e,m⟩
 have liveB:∀k,(h.upd g (.cells cs' ro)).live k->h.live k:=λk ⟨o,e,m⟩=>by
  rw[get k hlt] at e;by_cases q:k=g
  .rw[if_pos q] at e;cases e;subst q;exact⟨_,hg,rfl⟩
  .rw[if_neg q] at e;exact⟨o,e,m⟩
 refine⟨H.dom,H.blk,H.glob,λk l o e1 e2=>?_,λk k' l l' e1 e2 hne m1 m2=>H.apart k k' l l' e1 e2 hne (mutB k m1) (liveB k' m2),H.frz,λb C k l e1 e2 m=>H.fzap b C k l e1 e2 (mutB k m),λk l cs2 e1 e2=>?_⟩
 .rw[get k hlt] at e2;by_cases q:k=g
  .rw[if_pos q] at e2;cases e2;subst q;obtain⟨C,ty,fr,c1,c2,c3,c4,c5⟩:=H.obj k l _ e1 hg;refine⟨C,ty,fr,c1,c2,c3,by rw[<- hle.1];exact c4,λi v hv=>?_⟩
   have hi:i<cs.length:=by rw[hle.1];exact (LX.1 hv).1
   obtain⟨v',d1,d2⟩:=c5 i _ (LU hi);exact⟨v',d1,hle.get (LU hi) hv N ι w v' H d2⟩
  .rw[if_neg q] at e2;exact H.obj k l o e1 e2
 .rw[get k hlt] at e2;by_cases q:k=g
  .rw[if_pos q] at e2;cases e2;subst q;exact H.rofz k l cs e1 hg
  .rw[if_neg q] at e2;exact H.rofz k l cs2 e1 e2
theorem Step.nk{ι:Inj}{w:World}(H:HRel N ι h w){g:Nat}{l:Loc}(hl:ι g=some l){cs cs':List Value}{ro:Bool}(hg:h.get g=some (.cells cs ro)):Step N ι h w ι (h.upd g (.cells cs' ro)) w:=by
 have hlt:=Heap.ai hg;have get:=Heap.cc h g (.cells cs' ro);refine⟨H.dom,LV _,Inj.Le.refl ι,λk l e e'=>(by rw[e'] at e;cases e),λk l e e'=>(by rw[e'] at e;cases e),λk _ m=>?_,λk _ m=>?_,LV _,λ_ _ _=>rfl,λk _ e=>?_,⟨rfl,rfl,rfl,λ_=>LV _⟩,λb C e e'=>(by rw[e'] at e;cases e)⟩
 .obtain⟨o,e,m⟩:=m;rw[get k hlt] at e;by_cases q:k=g
  .rw[if_pos q] at e;cases e;subst q;exact⟨_,hg,m⟩
  .rw[if_neg q] at e;exact⟨o,e,m⟩
 .obtain⟨o,e,m⟩:=m;rw[get k hlt] at e;by_cases q:k=g
  .rw[if_pos q] at e;cases e;subst q;exact⟨_,hg,rfl⟩
  .rw[if_neg q] at e;exact⟨o,e,m⟩
 .rw[get k hlt,if_neg (λq=>by rw[q,hl] at e;cases e)]
theorem VLe.flM{α:Type}{enc:α->Value}{l:List α}{s g n cap:Nat}{sp:Option Nat}{h2:Heap}(hq:h2.get g=some (.cells (ah (l.map enc)) true))(hn:n=l.length)(hs:∀x:α,(cl (enc x)).length=s):VLe h2 (.slice (some ⟨g,0,sp⟩) n cap) (ae s enc l):=by
 refine VLe.fl hq (by rw[LZ];exact hn) (bE hs l) (by rw[bn hs,hn];omega) ?_;rw[M0,hn,<- bn hs,Ng];exact LLe.refl _ _
theorem Own.IY{b s n cap g:Nat}{sp:Option Nat}{cs es:List Value}{ro:Bool}{h2:Heap}(O:Own B h0 L h)(F:Frozen b h h2)(hb:b<=h0.size)(m:(some g,.cells cs ro)∈L)(hn:n=es.length)(hs:∀e∈es,(cl e).length=s)(hl:n*s=cs.length)(le:LLe h2 cs (ah es)):VLe h2 (.slice (some ⟨g,0,sp⟩) n cap) (FL s es):=by
 obtain⟨q1,q2⟩:=O.get g _ m;refine VLe.fl (F.at (Mf hb q1) q2) hn hs (by omega) ?_;rw[M0,hl,Ng];exact le
theorem nD{ι:Inj}{e:Env}{a:Act}(r:ERel ι e a){t:Nat}(ht:t<e.n){g o n c:Nat}{sp:Option Nat}(hv:e.get t=.slice (some ⟨g,o,sp⟩) n c):∃l,ι g=some l:=by
 have:=r.get t ht;rw[hv] at this;generalize a.tmps.getD t undef=y at this
 cases this with
 |slice _ _ _ _ _ l0 q=>exact⟨l0,q⟩
 |sliceOpen _ _ _ _ _ _ _ l0 q=>exact⟨l0,q⟩
theorem LLe.bJ{h:Heap}{cs:List Value}{p:Nat}{v v':Value}(hv:VLe h v v'):LLe h (bJ cs p [v]) (bJ cs p [v']):=by
 unfold Abs.bJ;refine⟨by simp,λi=>?_⟩;simp only[Mh,MC,List.singleton_append,L6];by_cases c:i<(cs.take p).length
 .rw[Mb c,Mb c];exact VLe.refl _ _
 .rw[Mg (by omega),Mg (by omega)]
  cases i-(cs.take p).length with
  |zero=>exact hv
  |succ j=>exact VLe.refl _ _
theorem CodeS.ghost{c:Code}{e:Env}{K:X->Env->Heap->Prop}(O:Own B h0 L h){g gl:Nat}{cs cs2 cs2':List Value}{ro ro2:Bool}{f1 f2:Slot->List Slot}(A1:At (some g,.cells cs ro) L f1)(A2:At (some gl,.cells cs2 ro2) (f1 (some g,.cells cs true)) f2)
  {t1 t2 o1 n1 c1 o2 n2 c2:Nat} {sp1 sp2:Option Nat} (ht1:Nat.blt t1 e.n=true) (hv1:e.get t1=.slice (some ⟨g,o1,sp1⟩) n1 c1) (ht2:Nat.blt t2 e.n=true) (hv2:e.get t2=.slice (some ⟨gl,o2,sp2⟩) n2 c2)
  (le:∀h2,h2.get g=some (.cells cs true)->LLe h2 cs2 cs2') (k:∀h,Own B h0 (f2 (some gl,.cells cs2' ro2)) h->CodeS P N c e h K):CodeS P N c e h K:=by
 have hg:=O.at A1.mem;have u1:=Upd.upd (.cells cs true) (Heap.ai hg);have O1:=O.upd A1 u1;have hg2:=O1.at A2.mem;have u2:=Upd.upd (.cells cs2' ro2) (Heap.ai hg2);have O2:=O1.upd A2 u2;refine⟨λhM hok=>?_⟩;obtain⟨x,e1,h1,hc,hk⟩:=(k _ O2).spec hM hok;refine⟨x,e1,h1,⟨⟨by have:=hc.1.1;rw[u2.size,u1.size] at this;exact this,hc.1.2⟩,λι w a H r=>?_⟩,hk⟩;obtain⟨l1,e1'⟩:=nD r (Mq ht1) hv1;obtain⟨l2,e2'⟩:=nD r (Mq ht2) hv2;obtain⟨ι2,H2,S2⟩:=jQ H e1' hg;have e2'':=S2.ext.at_ _ _ e2';have H3:=H2.nk hg2 (le _ u1.get);have S3:=Step.nk H2 e2'' hg2 (cs':=cs2');refine wp_mono (hc.2 ι2 w a H3 (r.mono S2.ext)) ?_;rintro x' a' w' ⟨rfl,ι',r',H',S⟩;exact⟨rfl,ι',r',H',(S2.trans S3).trans S⟩
end
end Go.Abs
