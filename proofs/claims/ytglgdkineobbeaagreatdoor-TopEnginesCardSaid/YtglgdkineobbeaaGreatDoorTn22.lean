/- Parts of the proof. -/
import Derived.Test.YtglgdkineobbeaaGreatDoorTn21
open Go.Region renaming wanted->Mz
open Nat renaming beq->NZ
namespace Go.Abs
structure New (h:Heap) (ob:AObj) (h1:Heap):Prop where
 ext:Ext h h1
 get:h1.get h.size=some ob
 size:h1.size=h.size+1
structure Upd (h:Heap) (g:Nat) (ob:AObj) (h1:Heap):Prop where
 get:h1.get g=some ob
 other:∀k,k≠g->h1.get k=h.get k
 size:h1.size=h.size
theorem New.push(h:Heap)(ob:AObj):New h ob (h.push ob) :=
 ⟨⟨NB _,λg hg=>by rw[Heap.bq,if_neg (by omega)]⟩,by rw[Heap.bq,if_pos rfl],rfl⟩
theorem Upd.upd{h:Heap}{g:Nat}(ob:AObj)(hg:g<h.size):Upd h g ob (h.upd g ob) :=
 ⟨by rw[Heap.cc _ _ _ _ hg,if_pos rfl],λk hk=>by rw[Heap.cc _ _ _ _ hg,if_neg hk],rfl⟩
theorem Ext.get{h h1:Heap}(e:Ext h h1){g:Nat}{o:AObj}(q:h.get g=some o):h1.get g=some o:=by
 rw[e.2 g (Heap.ai q)];exact q
theorem Upd.ext{h0 h h1:Heap}{g:Nat}{ob:AObj}(u:Upd h g ob h1)(e:Ext h0 h)(hg:h0.size<=g):Ext h0 h1 :=
 ⟨by rw[u.size];exact e.1,λk hk=>by rw[u.other k (by omega),e.2 k hk]⟩
theorem Upd.keep{h h1:Heap}{g:Nat}{ob:AObj}(u:Upd h g ob h1){k:Nat}{o:AObj}(hk:k≠g)(q:h.get k=some o):h1.get k=some o:=by
 rw[u.other k hk];exact q
theorem New.keep{h h1:Heap}{ob:AObj}(u:New h ob h1){k:Nat}{o:AObj}(q:h.get k=some o):h1.get k=some o:=u.ext.get q
theorem New.exts{h0 h h1:Heap}{ob:AObj}(u:New h ob h1)(e:Ext h0 h):Ext h0 h1:=e.trans u.ext
def zJ(v:Value)(K:Value->Prop):Prop :=
 match v with
 |.bool b=>K (.bool b)
 |.int k n=>K (.int k n)
 |.float k n=>K (.float k n)
 |.complex k a b=>K (.complex k a b)
 |.string s=>K (.string s)
 |.pointer a=>K (.pointer a)
 |.slice a n c=>K (.slice a n c)
 |.map r=>K (.map r)
 |.chan r=>K (.chan r)
 |.func f a b=>qH a λa=>qH b λb=>K (.func f a b)
 |.nilFunc=>K .nilFunc
 |.iface t v=>K (.iface t v)
 |.nilIface=>K .nilIface
 |.agg cs=>qH cs λcs=>K (.agg cs)
 |.tuple cs=>qH cs λcs=>K (.tuple cs)
theorem uH{v:Value}{K:Value->Prop}:zJ v K↔K v:=by
 cases v <;> try exact O4
 case func f a b =>
  show (qH a λa=>qH b λb=>K (.func f a b))↔_
  rw[nE,nE]
 case agg cs=>exact nE (K:=λcs=>K (.agg cs))
 case tuple cs=>exact nE (K:=λcs=>K (.tuple cs))
def xo(v:Value)(K:Value->Prop):Prop :=
 match v with
 |.iface t w=>match w with
  |.agg a=>match a with
   |⟨l⟩=>match l with
    |[]=>K (.iface t (.agg ⟨[]⟩))
    |u::r=>zJ u λu=>K (.iface t (.agg ⟨u::r⟩))
  |w=>K (.iface t w)
 |v=>zJ v K
theorem nA{v:Value}{K:Value->Prop}:xo v K↔K v:=by
 unfold xo;split
 .split
  .split;split
   .exact O4
   .exact uH
  .exact O4
 .exact uH
def qO(e:Env)(d:Option Tmp)(v:Value)(K:Env->Prop):Prop :=
 match d with
 |none=>K e
 |some i=>match e with
  |⟨n,t,b⟩=>xo v λv=>Tr.AZ v (i+1) t i λt=>K ⟨n,t,b⟩
theorem iA{e:Env}{d:Option Tmp}{v:Value}{K:Env->Prop}:qO e d v K↔K (e.put d v):=by
 cases d with
 |none=>exact O4
 |some i =>
  cases e
  unfold qO;simp only[nA,Tr.oX];exact O4
def Hg(v:Value)(K:Value->Prop):Prop:=∃b,v=.bool b/\(b=true->K (.bool true))/\(b=false->K (.bool false))
theorem BX{v:Value}{K:Value->Prop}(h:Hg v K):K v:=by
 obtain⟨b,rfl,h1,h2⟩:=h
 cases b
 .exact h2 rfl
 .exact h1 rfl
def pT(s:Bool)(e:Env)(d:Option Tmp)(v:Value)(K:Env->Prop):Prop :=
 match s with
 |true=>Hg v λv=>qO e d v K
 |false=>qO e d v K
theorem iT{s:Bool}{e:Env}{d:Option Tmp}{v:Value}{K:Env->Prop}(h:pT s e d v K):K (e.put d v):=by
 cases s
 .exact iA.1 h
 .exact iA.1 (BX (K:=λv=>qO e d v K) h)
def fm(ops:Array Oper)(k:Nat):Bool:=match ops with
 |⟨l⟩=>l.any λo=>match o.guard with
  |some (j,_)=>NZ j k
  |none=>false
def JT:Op->Bool
 |.convert .. | .index .. | .indexAddr .. | .slice .. | .makeFunc .. => true
 |.binOp op _ _ _ _=>match op with
  |.eql | .neq | .lss | .leq | .gtr | .geq=>false
  |_=>true
 |.call { callee:=.builtin .len,.. }=>false
 |.call _=>true
 |_=>false
def opG(P:Program)(N:Nat)(o:Oper)(e:Env)(h:Heap)(K:Value->Heap->Prop):Prop :=
 match cls o.op with
 |.pure=>match JT o.op with
  |false=>match Kp P e.eval o with
   |some v=>K v h
   |none=>∃v,aC P e.eval o=some v/\K v h
  |true=>∃v,aC P e.eval o=some v/\K v h
 |.read=>∃v,bp P e.eval o h=some v/\K v h
 |.new=>∃ob f,ew P e.eval o=some (ob,f)/\∀h1,New h ob h1->K (f h.size) h1
 |.eff=>∃(v:Value) (T:Heap->Prop),(∃h',cZ P e.eval o h=some (v,h')/\T h')/\∀h1,T h1->K v h1
 |.call=>match ko e.eval o.op with
  |some (f,l)=>wv l λl=>∃v h',al P N f ⟨l⟩ h v h'/\K v h'
  |none=>False
theorem rV{P:Program}{N:Nat}{o:Oper}{e:Env}{h:Heap}{K:Value->Heap->Prop}(hk:opG P N o e h K):∃v h',OpD P N o e h v h'/\K v h':=by
 unfold opG at hk
 cases hc:cls o.op with
 |pure =>
  simp only[hc] at hk;split at hk
  .split at hk
   .rename_i v hv;exact⟨v,h,OpD.pure hc (I9 hv),hk⟩
   .obtain⟨v,hv,hk⟩:=hk;exact⟨v,h,OpD.pure hc hv,hk⟩
  .obtain⟨v,hv,hk⟩:=hk;exact⟨v,h,OpD.pure hc hv,hk⟩
 |read =>
  simp only[hc] at hk;obtain⟨v,hv,hk⟩:=hk;exact⟨v,h,OpD.read hc hv,hk⟩
 |new =>
  simp only[hc] at hk;obtain⟨ob,f,hv,hk⟩:=hk;exact⟨_,_,OpD.new hc hv,hk _ (New.push h ob)⟩
 |eff =>
  simp only[hc] at hk;obtain⟨v,T,⟨h',hv,ht⟩,hk⟩:=hk;exact⟨v,h',OpD.eff hc hv,hk h' ht⟩
 |call =>
  simp only[hc] at hk;split at hk
  .rename_i f l hv;rw[di] at hk;obtain⟨v,h',hd,hk⟩:=hk;exact⟨v,h',OpD.call hc (kl hv) hd,hk⟩
  .exact hk.elim
structure RegS (P:Program) (N:Nat) (ops:Array Oper) (l:List Oper) (k:Nat) (e:Env) (h:Heap) (K:Env->Heap->Prop):Prop where
 spec:∃e1 h1,lK P N ops l e h e1 h1/\K e1 h1
def uU(P:Program)(o:Op):Bool :=
 match o with
 |.binOp op t _ _ _=>match op with
  |.eql | .neq=>match P.underlying t with
   |some (.pointer _)=>true
   |_=>false
  |_=>false
 |.entry _=>true
 |.call { callee:=.builtin .len,argTypes,.. }=>match argTypes with
  |⟨l⟩=>match l with
   |t::_=>match P.underlying t with
    |some (.map ..)=>true
    |_=>false
   |[]=>false
 |_=>false
inductive NewG (P:Program) (ρ:Operand->Value) (o:Oper) (h:Heap) (K:Value->Heap->Prop):Prop
 |obj {ob:AObj} {f:Nat->Value}:ew P ρ o=some (ob,f)->(∀h1,New h ob h1->K (f h.size) h1)->NewG P ρ o h K
 |frzW {v v1:Value}:tX P ρ o=some v->VLe h v v1->K v1 h->NewG P ρ o h K
 |rng {ob:AObj}:wK P ρ o h=some ob->(∀h1,New h ob h1->K (.pointer (some ⟨h.size,0,none⟩)) h1)->NewG P ρ o h K
theorem NewG.frz{P:Program}{ρ:Operand->Value}{o:Oper}{h:Heap}{K:Value->Heap->Prop}{v:Value}(hv:tX P ρ o=some v)(hk:K v h):NewG P ρ o h K:=.frzW hv (VLe.refl h v) hk
def DR(o:Op):Bool:=match cls o with
 |.new=>true
 |_=>false
def opE(P:Program)(N:Nat)(o:Oper)(e:Env)(h:Heap)(K:Value->Heap->Prop):Prop :=
 match uU P o.op with
 |true=>∃v,(aC P e.eval o=some v\/qF P e.eval o h=some v)/\K v h
 |false=>match DR o.op with
  |true=>NewG P e.eval o h K
  |false=>opG P N o e h K
theorem zI{P:Program}{o:Op}(h:uU P o=true):cls o=.pure:=by
 unfold uU at h;split at h
 .rfl
 .rfl
 .rfl
 .cases h
theorem xv{P:Program}{N:Nat}{o:Oper}{e:Env}{h:Heap}{K:Value->Heap->Prop}(hk:opE P N o e h K):∃v h',OpE P N o e h v h'/\K v h':=by
 unfold opE at hk;split at hk
 .rename_i hp;obtain⟨v,hv|hv,hk⟩:=hk
  .exact⟨v,h,.inl (OpD.pure (zI hp) hv),hk⟩
  .exact⟨v,h,.inr (.inl ⟨hv,rfl⟩),hk⟩
 .split at hk
  .rename_i hn
   have hc:cls o.op=.new:=by
    unfold DR at hn;split at hn
    .assumption
    .cases hn
   cases hk with
   |obj hv hk=>exact⟨_,_,.inl (OpD.new hc hv),hk _ (New.push h _)⟩
   |frzW hv hle hk=>exact⟨_,h,.inr (.inr (.inl ⟨⟨_,hv,hle⟩,rfl⟩)),hk⟩
   |rng hv hk=>exact⟨_,_,.inr (.inr (.inr ⟨_,hv,rfl,rfl⟩)),hk _ (New.push h _)⟩
  .obtain⟨v,h',hd,hk⟩:=rV hk;exact⟨v,h',.inl hd,hk⟩
def zV(P:Program)(N:Nat)(ops:Array Oper)(l:List Oper)(k:Nat)(e:Env)(h:Heap)(K:Env->Heap->Prop):Prop :=
 match l with
 |[]=>K e h
 |o::r=>match Mz o (aQ ops e) with
  |true=>opE P N o e h λv h=>pT (fm ops k) e o.dst v λe=>RegS P N ops r (k+1) e h K
  |false=>qO e o.dst undef λe=>RegS P N ops r (k+1) e h K
theorem RegS.step{P:Program}{N:Nat}{ops:Array Oper}{l:List Oper}{k:Nat}{e:Env}{h:Heap}{K:Env->Heap->Prop}(hk:zV P N ops l k e h K):RegS P N ops l k e h K:=by
 unfold zV at hk;split at hk
 .exact⟨e,h,⟨rfl,rfl⟩,hk⟩
 .split at hk
  .rename_i hw;obtain⟨v,h1,hd,hk⟩:=xv hk;obtain⟨e2,h2,hr,hk⟩:=(iT hk).spec;refine⟨e2,h2,?_,hk⟩;unfold lK;rw[if_pos hw];exact⟨v,h1,hd,hr⟩
  .rename_i hw;obtain⟨e2,h2,hr,hk⟩:=(iA.1 hk).spec;refine⟨e2,h2,?_,hk⟩;unfold lK;rw[if_neg (by rw[hw];simp)];exact hr
structure RegXS (P:Program) (N:Nat) (ops:Array Oper) (h0:Heap) (l:List Oper) (k:Nat) (e:Env) (h:Heap) (K:Env->Heap->Prop):Prop where
 spec:∃e1 h1,xN P N ops h0 l k e h e1 h1/\K e1 h1
def pv(P:Program)(N:Nat)(ops:Array Oper)(h0:Heap)(l:List Oper)(k:Nat)(e:Env)(h:Heap)(K:Env->Heap->Prop):Prop :=
 match l with
 |[]=>K e h
 |o::r=>match Mz o (aQ ops e) with
  |true=>opG P N o e h (Ge P ops h0 k o e h λv h=>pT (fm ops k) e o.dst v λe=>RegXS P N ops h0 r (k+1) e h K)
  |false=>qO e o.dst undef λe=>RegXS P N ops h0 r (k+1) e h K
theorem RegXS.step{P:Program}{N:Nat}{ops:Array Oper}{h0:Heap}{l:List Oper}{k:Nat}{e:Env}{h:Heap}{K:Env->Heap->Prop}(hk:pv P N ops h0 l k e h K):RegXS P N ops h0 l k e h K:=by
 unfold pv at hk;split at hk
 .exact⟨e,h,⟨rfl,rfl⟩,hk⟩
 .rename_i o r;split at hk
  .rename_i hw;obtain⟨v,h1,hd,hk⟩:=rV hk;have key:((aW o=true->eO ops k=true\/Ext h h1)/\(dp o=true->jk ops k=true\/plain v=true\/bp P e.eval o h0=some v)) /\
     (pT (fm ops k) e o.dst v λe=>RegXS P N ops h0 r (k+1) e h1 K):=by
    unfold Ge at hk;unfold aW dp
    cases hc:cls o.op <;> simp only[hc] at hk ⊢
    .exact⟨⟨by simp,by simp⟩,hk⟩
    .refine⟨⟨by simp,λ_=>?_⟩,hk.2⟩
     rcases hk.1 with q|q|q
     .exact .inr (.inl q)
     .exact .inl q
     .exact .inr (.inr q)
    .exact⟨⟨by simp,by simp⟩,hk⟩
    .exact⟨⟨λ_=>hk.1,by simp⟩,hk.2⟩
    .exact⟨⟨λ_=>hk.1.symm,by simp⟩,hk.2⟩
   obtain⟨⟨c1,c2⟩,hk⟩:=key;obtain⟨e2,h2,hr,hk⟩:=(iT hk).spec;refine⟨e2,h2,?_,hk⟩;unfold xN;rw[if_pos hw];exact⟨v,h1,⟨hd,c1,c2⟩,hr⟩
  .rename_i hw;obtain⟨e2,h2,hr,hk⟩:=(iA.1 hk).spec;refine⟨e2,h2,?_,hk⟩;unfold xN;rw[if_neg (by rw[hw];simp)];exact hr
structure CodeS (P:Program) (N:Nat) (c:Code) (e:Env) (h:Heap) (K:X->Env->Heap->Prop):Prop where
 spec:P.follows .mixedOrders=true->codeOk N e.n c=true->∃x e1 h1,aN P N c e h (X.bN x) e1 h1/\K x e1 h1
def Aj(P:Program)(N:Nat)(c:Code)(e:Env)(h:Heap)(K:X->Env->Heap->Prop):Prop :=
 match c with
 |.skip=>K .normal e h
 |.label _=>K .normal e h
 |.exit id=>K (.exit id) e h
 |.ret=>K .ret e h
 |.region _ ops d=>match ops,d with
  |⟨l⟩,false=>RegS P N ⟨l⟩ l 0 e h (K .normal)
  |⟨l⟩,true=>RegXS P N ⟨l⟩ h l 0 e h (K .normal)
 |.seq a b=>CodeS P N a e h λx e h=>match x with
  |.normal=>CodeS P N b e h K
  |.exit id=>K (.exit id) e h
  |.ret=>K .ret e h
 |.cond c a b=>∃t,e.eval c=.bool t/\(t=true->CodeS P N a e h K)/\(t=false->CodeS P N b e h K)
 |.block id c=>CodeS P N c e h λx e h=>match x with
  |.normal=>K .normal e h
  |.exit id'=>match NZ id' id with
   |true=>K .normal e h
   |false=>K (.exit id') e h
  |.ret=>K .ret e h
 |.loop c=>vY P N c e h K
 |.scope c=>CodeS P N c e h K
 |_=>False
section
variable {P:Program} {N:Nat}
theorem CodeS.step{c:Code}{e:Env}{h:Heap}{K:X->Env->Heap->Prop}(hk:Aj P N c e h K):CodeS P N c e h K:=by
 refine⟨λhM hok=>?_⟩
 cases c with
 |skip=>exact⟨.normal,e,h,aN.skip,hk⟩
 |label l=>exact⟨.normal,e,h,aN.label,hk⟩
 |exit id=>exact⟨.exit id,e,h,aN.exit,hk⟩
 |ret=>exact⟨.ret,e,h,aN.ret,hk⟩
 |region id ops d =>
  simp only[codeOk,L9] at hok;obtain⟨l⟩:=ops
  cases d with
  |false =>
   obtain⟨e1,h1,hr,hk⟩:=(show RegS P N ⟨l⟩ l 0 e h (K .normal) from hk).spec;exact⟨.normal,e1,h1,aN.region hok.1 hr,hk⟩
  |true =>
   obtain⟨e1,h1,hr,hk⟩:=(show RegXS P N ⟨l⟩ h l 0 e h (K .normal) from hk).spec;exact⟨.normal,e1,h1,aN.draw hM (by simpa using hok.2) hok.1 hr,hk⟩
 |seq a b =>
  simp only[codeOk,L9] at hok;obtain⟨x,e1,h1,c1,hk⟩:=(show CodeS P N a e h _ from hk).spec hM hok.1
  cases x with
  |normal =>
   obtain⟨x,e2,h2,c2,hk⟩:=(show CodeS P N b e1 h1 K from hk).spec hM (by rw[c1.1.2];exact hok.2);exact⟨x,e2,h2,aN.seq c1 c2,hk⟩
  |exit id=>exact⟨.exit id,e1,h1,aN.oV c1 (by simp[X.bN]),hk⟩
  |ret=>exact⟨.ret,e1,h1,aN.oV c1 (by simp[X.bN]),hk⟩
 |cond c a b =>
  simp only[codeOk,L9] at hok;obtain⟨t,ht,hka,hkb⟩:=hk
  cases t with
  |true =>
   obtain⟨x,e1,h1,c1,hk⟩:=(hka rfl).spec hM hok.1.2;exact⟨x,e1,h1,aN.cond hok.1.1 ht c1,hk⟩
  |false =>
   obtain⟨x,e1,h1,c1,hk⟩:=(hkb rfl).spec hM hok.2;exact⟨x,e1,h1,aN.cond hok.1.1 ht c1,hk⟩
 |block id c =>
  simp only[codeOk] at hok;obtain⟨x,e1,h1,c1,hk⟩:=(show CodeS P N c e h _ from hk).spec hM hok
  cases x with
  |normal=>exact⟨.normal,e1,h1,aN.block c1 (by simp[X.bN]),hk⟩
  |ret=>exact⟨.ret,e1,h1,aN.block c1 (by simp[X.bN]),hk⟩
  |exit id' =>
   simp only at hk
   cases he:NZ id' id with
   |true =>
    have:id'=id:=M6 he;subst this;refine⟨.normal,e1,h1,aN.vL c1,?_⟩;rw[he] at hk;exact hk
   |false =>
    have:id'≠id:=Q9 he;refine⟨.exit id',e1,h1,aN.block c1 (by simp only[X.bN];intro q;cases q;exact this rfl),?_⟩;rw[he] at hk;exact hk
 |loop c=>exact hk
 |scope c =>
  simp only[codeOk] at hok;obtain⟨x,e1,h1,c1,hk⟩:=(show CodeS P N c e h K from hk).spec hM hok;exact⟨x,e1,h1,aN.scope c1 (by intro l;cases x <;> simp[X.bN]),hk⟩
 |goto l=>exact hk.elim
 |rangeFunc f ps a b=>exact hk.elim
 |refuse w=>exact hk.elim
def mu(P:Program)(e:Env)(h:Heap):List ResultVar->(List Value->Prop)->Prop
 |[],K=>K []
 |.tmp t::r,K=>match Nat.blt t e.n with
  |true=>xo (e.get t) λv=>mu P e h r λvs=>K (v::vs)
  |false=>False
 |.cell a t::r,K=>∃v,ka P e h (.cell a t)=some v/\mu P e h r λvs=>K (v::vs)
theorem tq{e:Env}{h:Heap}:∀{l:List ResultVar}{K:List Value->Prop},mu P e h l K->∃vs,gU P e h l=some vs/\K vs
 |[],K,hk=>⟨[],rfl,hk⟩
 |.tmp t::r,K,hk=>by
  unfold mu at hk;split at hk
  .rename_i hlt;rw[nA] at hk;obtain⟨vs,h1,h2⟩:=tq hk;refine⟨e.get t::vs,?_,h2⟩;have:t<e.n:=Mq hlt;simp only[gU,ka,h1,if_pos this]
  .exact hk.elim
 |.cell a t::r,K,hk=>by
  unfold mu at hk;obtain⟨v,hv,hk⟩:=hk;obtain⟨vs,h1,h2⟩:=tq hk;exact⟨v::vs,by simp only[gU,hv,h1],h2⟩
def sQ:List Value->Value
 |[v]=>v
 |vs=>.tuple ⟨vs⟩
theorem iH{fn:Func}{e:Env}{h:Heap}{K:Value->Prop}(hk:mu P e h fn.results.toList λvs=>K (sQ vs)):∃v,lG P fn e h=some v/\K v:=by
 obtain⟨vs,h1,h2⟩:=tq hk;refine⟨sQ vs,?_,h2⟩;unfold lG;rw[h1]
 match vs with
 |[]=>rfl
 |[v]=>rfl
 |v::w::r=>rfl
theorem fnG(hM:P.follows .mixedOrders=true){f:FuncId}{fn:Func}{c:Code}(hf:P.funcs[f]?=some fn)(hb:fn.body=some c)(ho:jO N fn=true){vs:Array Value}(hs:vs.size<=fn.ntmps){h:Heap}{Q:Value->Heap->Prop}
  (hk:CodeS P N c (cM fn.ntmps vs) h λx e1 h1=>match x with
   |.exit _=>False
   |_=>mu P e1 h1 fn.results.toList λvs=>Q (sQ vs) h1):∃v h',al P N f vs h v h'/\Q v h':=by
 obtain⟨ok1,ok2⟩:=nw hf hb ho;obtain⟨x,e1,h1,c1,hk⟩:=hk.spec hM (by rw[iS];exact ok2)
 cases x with
 |exit id=>exact hk.elim
 |normal =>
  obtain⟨v,hv,hk⟩:=iH (K:=λv=>Q v h1) hk;exact⟨v,h1,al.body hf hb ok1 hs (.inl rfl) c1 hv,hk⟩
 |ret =>
  obtain⟨v,hv,hk⟩:=iH (K:=λv=>Q v h1) hk;exact⟨v,h1,al.body hf hb ok1 hs (.inr rfl) c1 hv,hk⟩
def lj:List (Nat×Value)->Env->Prop
 |[],_=>True
 |(i,v)::r,e=>e.get i=v/\lj r e
theorem gS:∀{l:List (Nat×Value)}{e:Env},lj l e->holds l e
 |[],_,_=>λp m=>by cases m
 |(i,v)::r,e,hk=>by
  intro p m
  rcases MF.1 m with rfl|m
  .exact hk.1
  .exact gS hk.2 p m
theorem lM(hM:P.follows .mixedOrders=true){c:Code}{nn:Nat}(hok:codeOk N nn c=true){σ:Type}(I:σ->Heap->Prop)(env:σ->List (Nat×Value))(μ:σ->Nat){e:Env}{h:Heap}{K:X->Env->Heap->Prop}(hn:e.n=nn)
  (start:∃s,I s h/\lj (env s) e)
  (round:∀s base h,I s h->eI (dJ (env s)) λt=>CodeS P N c ⟨nn,t,base⟩ h λx e1 h1=>match x with
   |.normal=>∃s',μ s'<μ s/\I s' h1/\lj (env s') e1
   |.exit id=>K (.exit id) e1 h1
   |.ret=>K .ret e1 h1):vY P N c e h K:=by
 have key:∀(m:Nat) (s:σ) (e:Env) (h:Heap),μ s=m->e.n=nn->I s h->holds (env s) e->∃k x e1 h1,jJ P N c k e h (X.bN x) e1 h1/\K x e1 h1:=by
  intro m
  induction m using Nat.strongRecOn with
  |_ m ih =>
   intro s e h hm he hI hh;obtain⟨x,e1,h1,c1,hk⟩:=((bQ _ _).1 (round s e.get h hI)).spec hM hok;have c2:aN P N c e h (X.bN x) e1 h1:=c1.congr (e':=⟨nn,dJ (env s),e.get⟩) he.symm (λt _=>by have:=tn hh t;rw[he] at this;exact this)
   cases x with
   |normal =>
    obtain⟨s',hlt,hI',hh'⟩:=hk;obtain⟨k,x,e2,h2,l2,hk⟩:=ih (μ s') (hm ▸ hlt) s' e1 h1 rfl (c2.1.2.trans he) hI' (gS hh');exact⟨k+1,x,e2,h2,jJ.more c2 l2,hk⟩
   |exit id=>exact⟨1,.exit id,e1,h1,jJ.last c2 (by simp[X.bN]),hk⟩
   |ret=>exact⟨1,.ret,e1,h1,jJ.last c2 (by simp[X.bN]),hk⟩
 obtain⟨s,hI,hh⟩:=start;obtain⟨k,x,e1,h1,l1,hk⟩:=key (μ s) s e h rfl hn hI (gS hh);exact⟨x,e1,h1,aN.loop l1,hk⟩
def Inj.with(ι ι':Inj):Inj:=⟨ι.at_,ι'.fz⟩
theorem VRel.both{ι ι':Inj}(hx:Inj.Le ι ι'){v v0 v':Value}(r:VRel ι v v0)(r':VRel ι' v v'):VRel (ι.with ι') v v':=by
 have same:∀{g:Nat} {l l':Loc},ι g=some l->ι' g=some l'->l'=l:=λe e'=>by rw[hx.at_ _ _ e] at e';cases e';rfl
 have up:∀{g:Nat} {l:Loc},ι g=some l->(ι.with ι') g=some l:=λe=>e
 induction r generalizing v' with
 |bool b=>cases r';exact .bool b
 |int k n=>cases r';exact .int k n
 |str s=>cases r';exact .str s
 |ptrNil=>cases r';exact .ptrNil
 |ptr g off l hl =>
  cases r' with
  |ptr _ _ l' hl'=>rw[same hl hl'];exact .ptr g off l (up hl)
 |sliceNil=>cases r';exact .sliceNil
 |slice g off len cap o l hl h1 h2 =>
  cases r' with
  |slice _ _ _ _ o' l' hl' _ h2'=>rw[same hl hl'] at h2' ⊢;exact .slice g off len cap o' l (up hl) h1 h2'
 |sliceOpen g off s len cap cap' o l hl h1 h2 h3 h4 =>
  cases r' with
  |sliceOpen _ _ _ _ _ cap2 o' l' hl' _ h2' h3' h4'=>rw[same hl hl'] at h3' h4' ⊢;exact .sliceOpen g off s len cap cap2 o' l (up hl) h1 h2' h3' h4'
 |mapNil=>cases r';exact .mapNil
 |map g l hl =>
  cases r' with
  |map _ l' hl'=>rw[same hl hl'];exact .map g l (up hl)
 |func f a b a0 b0 h1 h2 g1 g2 i1 i2 =>
  cases r' with
  |func _ _ _ a' b' q1 q2 k1 k2=>exact .func f a b a' b' q1 q2 (λi=>i1 i (k1 i)) (λi=>i2 i (k2 i))
 |nilFunc=>cases r';exact .nilFunc
 |nilIface=>cases r';exact .nilIface
 |fnNil s =>
  cases r' with
  |fnNil _=>exact .fnNil s
  |fn _ _ b o cap hne _=>exact absurd rfl hne
 |fn s es b o cap hne _ ih =>
  cases r' with
  |fnNil _=>exact absurd rfl hne
  |fn _ _ b' o' cap' _ h'=>exact .fn s es b' o' cap' hne (ih h')
 |fcNil s =>
  cases r' with
  |fcNil _=>exact .fcNil s
  |fcEmpty _ a=>exact .fcEmpty s a
  |fc _ _ b o hne _=>exact absurd rfl hne
 |fcEmpty s a =>
  cases r' with
  |fcNil _=>exact .fcNil s
  |fcEmpty _ a=>exact .fcEmpty s a
  |fc _ _ b o hne _=>exact absurd rfl hne
 |fc s es b o hne _ ih =>
  cases r' with
  |fcNil _=>exact absurd rfl hne
  |fcEmpty _ a=>exact absurd rfl hne
  |fc _ _ b' o' _ h'=>exact .fc s es b' o' hne (ih h')
 |flNil s =>
  cases r' with
  |flNil _=>exact .flNil s
  |flEmpty _ a cap=>exact .flEmpty s a cap
  |fl _ _ b o cap C h0 h1=>exact absurd rfl h1
 |flEmpty s a cap =>
  cases r' with
  |flNil _=>exact .flNil s
  |flEmpty _ a cap=>exact .flEmpty s a cap
  |fl _ _ b o cap C h0 h1=>exact absurd rfl h1
 |fl s es b o cap C h0 h1 h2 h3 h4 h5 ih =>
  cases r' with
  |flNil _=>exact .flNil s
  |flEmpty _ a cap=>exact .flEmpty s a cap
  |fl _ _ b' o' cap' C' k0 k1 k2 k3 k4 k5=>exact .fl s es b' o' cap' C' k0 k1 k2 k3 k4 (λi hi=>ih i hi (k5 i hi))
 |fp v b o C h0 h1 h2 ih =>
  cases r' with
  |fp _ b' o' C' k0 k1 k2=>exact .fp v b' o' C' k0 k1 (λi hi=>ih i hi (k2 i hi))
 |fe a =>
  cases r' with
  |fe a'=>exact .fe a'
 |agg a a0 h1 g1 i1 =>
  cases r' with
  |agg _ a' q1 k1=>exact .agg a a' q1 (λi=>i1 i (k1 i))
 |unit =>
  cases r' with
  |unit=>exact .unit
  |tuple _ a' q1 k1 =>
   have:a' = #[]:=NJ (by rw[<- q1];rfl);subst this;exact .unit
 |tuple a a0 h1 g1 i1 =>
  cases r' with
  |tuple _ a' q1 k1=>exact .tuple a a' q1 (λi=>i1 i (k1 i))
  |unit=>exact .unit
theorem iL.both{ι ι':Inj}(hx:Inj.Le ι ι'){l:Loc}{o:AObj}{x x':Option Obj}(r:iL ι l o x)(r':iL ι' l o x'):iL (ι.with ι') l o x':=by
 cases o with
 |cells cs ro =>
  obtain⟨C,ty,fr,h1,h2,h3,h4,h5⟩:=r;obtain⟨C',ty',fr',h1',h2',h3',h4',h5'⟩:=r';refine⟨C',ty',fr',h1',h2',h3',h4',λi v e=>?_⟩;obtain⟨v0,_,q⟩:=h5 i v e;obtain⟨v',e',q'⟩:=h5' i v e;exact⟨v',e',q.both hx q'⟩
 |map es =>
  obtain⟨E,c,h1,h2,h3,h4,_⟩:=r;obtain⟨E',c',h1',h2',h3',h4',h5'⟩:=r';refine⟨E',c',h1',h2',h3',λi k v e=>?_,h5'⟩;obtain⟨m,_,q1,q2⟩:=h4 i k v e;obtain⟨m',e',q1',q2'⟩:=h4' i k v e;exact⟨m',e',q1.both hx q1',q2.both hx q2'⟩
 |iter s pos=>exact r'
 |rng g seen n =>
  obtain⟨lg,h1,_,_⟩:=r;obtain⟨lg',h1',h2',h3'⟩:=r';have:=hx.at_ _ _ h1;rw[h1'] at this
  cases this
  exact⟨_,h1,h2',h3'⟩
 |dead=>trivial
def aq(v:Value):Prop:=∀(ι ι':Inj) (v':Value),(∀b C,ι.fz b=some C->ι'.fz b=some C)->VRel ι v v'->VRel ι' v v'
theorem aq.flat{v:Value}(h:oR v=true):aq v:=λι ι' v' _ r=>by
 rw[r.rK h];exact VRel.mY h
theorem al.KJ{f:FuncId}{vs:Array Value}{h h':Heap}{v:Value}(c:al P N f vs h v h')(e:Ext h h')(hv:aq v):al P N f vs h v h:=by
 refine⟨LV _,λι w vs' H r=>?_⟩
 rcases c.2 ι w vs' H r with⟨ok,hc⟩|⟨v',e1,e2,_⟩
 .refine .inl ⟨ok,hc.mono λe' w' q=>?_⟩;obtain⟨ι',v',rfl,r',H',S⟩:=q;have get:∀{g:Nat} {o:AObj},h.get g=some o->h'.get g=some o:=λq=>e.get q;refine⟨ι.with ι',v',rfl,hv ι' _ v' (λ_ _ q=>q) r',⟨H.dom,λg l q=>Mr (H.blk g l q) S.wsize,H.glob,λg l o q1 q2=>?_,H.apart,H'.frz,λb C g l q0 q1 m=>?_,λg l cs q1 q2=>?_⟩,?_⟩
  .exact (H.obj g l o q1 q2).both S.ext (H'.obj g l o (S.ext.at_ g l q1) (e.get q2))
  .obtain⟨o,m1,m2⟩:=m;exact H'.fzap b C g l q0 (S.ext.at_ g l q1) ⟨o,get m1,m2⟩
  .exact H'.rofz g l cs (S.ext.at_ g l q1) (get q2)
  .exact⟨H.dom,LV _,⟨λ_ _ q=>q,S.ext.fz⟩,λg l q1 q2=>(by have q3:ι g=some l:=q1;rw[q2] at q3;cases q3),λg l q1 q2=>(by have q3:ι g=some l:=q1;rw[q2] at q3;cases q3),λ_ _ m=>m,λ_ _ m=>m,S.wsize,S.frame,λ_ _ _=>rfl,S.out,S.fzown⟩
 .exact .inr ⟨v',e1,e2,rfl⟩
theorem al.drop{f:FuncId}{vs:Array Value}{h h':Heap}{v:Value}(c:al P N f vs h v h')(e:Ext h h')(hv:oR v=true):al P N f vs h v h:=c.KJ e (aq.flat hv)
theorem fnP(hM:P.follows .mixedOrders=true){f:FuncId}{fn:Func}{c:Code}(hf:P.funcs[f]?=some fn)(hb:fn.body=some c)(ho:jO N fn=true){vs:Array Value}(hs:vs.size<=fn.ntmps){h:Heap}{r:Value}(hr:oR r=true)
  (hk:CodeS P N c (cM fn.ntmps vs) h λx e1 h1=>match x with
   |.exit _=>False
   |_=>mu P e1 h1 fn.results.toList λvs=>sQ vs=r/\Ext h h1):al P N f vs h r h:=by
 obtain⟨v,h',c1,rfl,e⟩:=fnG hM hf hb ho hs (Q:=λv h1=>v=r/\Ext h h1) hk;exact c1.drop e hr
theorem Cs{c:Code}{e:Env}{h:Heap}{K:X->Env->Heap->Prop}(hk:Aj P N c e h K):CodeS P N c e h K:=CodeS.step hk
theorem Rs{ops:Array Oper}{l:List Oper}{k:Nat}{e:Env}{h:Heap}{K:Env->Heap->Prop}(hk:zV P N ops l k e h K):RegS P N ops l k e h K:=RegS.step hk
theorem Rx{ops:Array Oper}{h0:Heap}{l:List Oper}{k:Nat}{e:Env}{h:Heap}{K:Env->Heap->Prop}(hk:pv P N ops h0 l k e h K):RegXS P N ops h0 l k e h K:=RegXS.step hk
end
theorem gW{A B:Prop}(a:A)(h:A->B:=by intro h;(conv=>whnf);(repeat(first|apply Cs|apply Rs|apply Rx));(conv=>whnf);exact h):B:=h a
end Go.Abs
