/- Parts of the proof. -/
import Derived.Test.YtglgdkineobbeaaGreatDoorTn19
namespace Go.Abs
def pe(P:Program)(f:FuncId)(vs:Array Value)(_:Heap):Option Value :=
 match P.funcs[f]? with
 |none=>none
 |some fn =>
  match fn.body with
  |some _=>none
  |none =>
   match vs.all plain with
   |false=>none
   |true =>
    match cq P (callFunc f vs) with
    |some (.value v)=>match plain v with
     |true=>some v
     |false=>none
    |_=>none
theorem jy{P:Program}{N:Nat}(f:FuncId)(vs:Array Value)(h:Heap)(v:Value)(e:pe P f vs h=some v):al P N f vs h v h:=by
 unfold pe at e;split at e
 .cases e
 .split at e
  .cases e
  .split at e
   .cases e
   .rename_i hall;split at e
    .rename_i v0 hp;split at e
     .rename_i hv;simp only[LR] at e;subst e;refine⟨LV _,λι w vs' _ r=>.inr ⟨v0,?_,VRel.aU hv,rfl⟩⟩
      have:vs'=vs:=by
       apply Q0 r.1.symm;intro i h1 h2;have q:=r.2 i
       have hp':plain (vs.getD i undef)=true:=by
        rw[LW,Me h2];exact (MJ.1 hall) _ (PT h2)
       have:=q.cv hp';rw[LW,LW,Me h1,Me h2] at this;simpa using this
      rw[this];exact vH hp w
     .cases e
    .cases e
end Go.Abs

namespace Go.Abs
def Dp(v:Value)(K:Value->Prop):Prop :=
 match v with
 |.bool b=>K (.bool b)
 |.int k n=>K (.int k n)
 |.float k n=>K (.float k n)
 |.complex k a b=>K (.complex k a b)
 |.string s=>K (.string s)
 |.pointer a=>K (.pointer a)
 |.slice a n c=>K (.slice a n c)
 |.map r=>K (.map r)
 |.chan r=>K (.chan r)
 |.func f a b=>K (.func f a b)
 |.nilFunc=>K .nilFunc
 |.iface t v=>K (.iface t v)
 |.nilIface=>K .nilIface
 |.agg cs=>K (.agg cs)
 |.tuple cs=>K (.tuple cs)
theorem Aq{v:Value}{K:Value->Prop}:Dp v K↔K v:=by cases v <;> exact O4
def wv(l:List Value)(K:List Value->Prop):Prop :=
 match l with
 |[]=>K []
 |v::r=>Dp v λv=>wv r λr=>K (v::r)
theorem di:∀{l:List Value}{K:List Value->Prop},wv l K↔K l
 |[],_=>O4
 |v::r,K=>by
  unfold wv;rw[Aq,di]
def qH(a:Array Value)(K:Array Value->Prop):Prop :=
 match a with
 |⟨l⟩=>wv l λl=>K ⟨l⟩
theorem nE{a:Array Value}{K:Array Value->Prop}:qH a K↔K a:=by
 cases a;exact di
def Tr.AZ{α:Type}(x:α):Nat->Tr α->Nat->(Tr α->Prop)->Prop
 |0,t,_,K=>K t
 |f+1,.nil,n,K =>
  match decide (n=0) with
  |true=>K (.node .nil (some x) .nil)
  |false=>match decide (n%2=1) with
   |true=>Tr.AZ x f .nil (n/2) λt=>K (.node t none .nil)
   |false=>Tr.AZ x f .nil (n/2-1) λt=>K (.node .nil none t)
 |f+1,.node l v r,n,K =>
  match decide (n=0) with
  |true=>K (.node l (some x) r)
  |false=>match decide (n%2=1) with
   |true=>Tr.AZ x f l (n/2) λt=>K (.node t v r)
   |false=>Tr.AZ x f r (n/2-1) λt=>K (.node l v t)
theorem Tr.oX{α:Type}(x:α):∀(f:Nat) (t:Tr α) (n:Nat) (K:Tr α->Prop),Tr.AZ x f t n K↔K (Tr.vw f t n x)
 |0,_,_,_=>O4
 |f+1,.nil,n,K=>by
  unfold Tr.AZ Tr.vw;by_cases h:n=0
  .simp[h]
  .by_cases h2:n%2=1
   .simp only[h,h2,decide_false,decide_true,if_false,if_true];exact Tr.oX x f _ _ _
   .simp only[h,h2,decide_false,if_false];exact Tr.oX x f _ _ _
 |f+1,.node l v r,n,K=>by
  unfold Tr.AZ Tr.vw;by_cases h:n=0
  .simp[h]
  .by_cases h2:n%2=1
   .simp only[h,h2,decide_false,decide_true,if_false,if_true];exact Tr.oX x f _ _ _
   .simp only[h,h2,decide_false,if_false];exact Tr.oX x f _ _ _
def eI{α:Type}:Tr α->(Tr α->Prop)->Prop
 |.nil,K=>K .nil
 |.node l v r,K=>eI l λl=>eI r λr=>match v with
  |none=>K (.node l none r)
  |some x=>K (.node l (some x) r)
theorem bQ{α:Type}:∀(t:Tr α) (K:Tr α->Prop),eI t K↔K t
 |.nil,_=>O4
 |.node l v r,K=>by
  unfold eI;rw[bQ l,bQ r]
  cases v <;> exact O4
def ko(ρ:Operand->Value)(op:Op):Option (FuncId×List Value) :=
 match op with
 |.call { callee:=.value f,args,.. } =>
  match ρ f with
  |.func (.func f) first captured=>some (f,first.toList++(args.toList.map ρ++captured.toList))
  |_=>none
 |_=>none
theorem kl{ρ:Operand->Value}{op:Op}{f:FuncId}{l:List Value}(h:ko ρ op=some (f,l)):fq ρ op=some (f,⟨l⟩):=by
 cases op <;> try (simp[ko] at h;done)
 rename_i c;obtain⟨callee,args,argTypes⟩:=c
 cases callee <;> try (simp[ko] at h;done)
 rename_i x;simp only[ko] at h;simp only[fq];split at h
 .rename_i g first captured hq
  simp only[LR,Mn] at h;obtain⟨rfl,rfl⟩:=h;rw[hq];simp only[LR,Mn,true_and];apply On;simp
 .cases h
def Kp(P:Program)(ρ:Operand->Value)(o:Oper):Option Value :=
 match o.op with
 |.convert .. => none
 |.build t ps=>match sW P t (ps.toList.map λp=>(p.1,ρ p.2)) with
  |some l=>some (.agg ⟨l⟩)
  |none=>none
 |.field t x i =>
  match P.underlying t,ρ x with
  |some (.struct fs),.agg cs=>match fs[i]? with
   |some f=>HH P f.type cs f.offset
   |none=>none
  |_,_=>none
 |.binOp op t x y _=>match quick (P.underlying t) op (ρ x) (ρ y) with
  |some v=>some v
  |none=>match op with
   |.eql=>match P.underlying t with
    |some d=>match nT d (ρ x) (ρ y) with
     |some b=>some (.bool b)
     |none=>none
    |none=>none
   |.neq=>match P.underlying t with
    |some d=>match nT d (ρ x) (ρ y) with
     |some b=>some (.bool !b)
     |none=>none
    |none=>none
   |_=>none
 |.unOp op _ x =>
  match op,ρ x with
  |.not,.bool b=>some (.bool !b)
  |_,_=>none
 |.index t _ _ =>
  match P.underlying t with
  |some .string=>none
  |_=>aC P ρ o
 |.slice t _ _ _ _ =>
  match P.underlying t with
  |some .string=>none
  |_=>aC P ρ o
 |.call { callee:=.builtin b,argTypes,args } =>
  match b with
  |.len =>
   match (argTypes.toList[0]?).bind P.underlying,args.toList.map ρ with
   |some (.slice _),[.slice _ n _]=>some (goInt n)
   |some (.slice _),[.iface _ (.tuple ⟨es⟩)]=>some (goInt es.length)
   |some (.slice _),[.iface _ (.bool _)]=>some (goInt 0)
   |_,_=>none
  |_=>none
 |_=>aC P ρ o
theorem I9{P:Program}{ρ:Operand->Value}{o:Oper}{v:Value}(h:Kp P ρ o=some v):aC P ρ o=some v:=by
 unfold Kp at h;split at h
 .cases h
 .rename_i t ps ho;split at h
  .rename_i l hl
   cases h
   obtain⟨z,h1,h2,h3⟩:=E4 hl;unfold aC;rw[ho];simp only[h1,h2,if_true,h3,MI]
  .cases h
 .rename_i t x i ho;split at h
  .rename_i fs cs hu hx;split at h
   .rename_i f hf;unfold aC;rw[ho];simp only[hu,hx,hf];exact GQ h
   .cases h
  .cases h
 .rename_i op t x y ty ho;unfold aC;rw[ho];split at h
  .rename_i hq
   cases h
   simp only[hq]
  .rename_i hq;simp only[hq];split at h
   .split at h
    .rename_i d hu;split at h
     .rename_i b hb
      cases h
      simp only[hu,hb]
     .cases h
    .cases h
   .split at h
    .rename_i d hu;split at h
     .rename_i b hb
      cases h
      simp only[hu,hb]
     .cases h
    .cases h
   .cases h
 .rename_i op t x ho;unfold aC;rw[ho];split at h
  .rename_i q;simp only[LR] at h;subst h;simp only[q]
  .cases h
 .split at h
  .cases h
  .exact h
 .split at h
  .cases h
  .exact h
 .rename_i b args argTypes ho;split at h
  .split at h
   .rename_i el _ _ _ q1 q2;unfold aC;rw[ho]
    have q1':(argTypes[0]?).bind P.underlying=some (.slice el):=by simpa using q1
    simp only[q1',q2,h]
   .rename_i el _ _ q1 q2;unfold aC;rw[ho]
    have q1':(argTypes[0]?).bind P.underlying=some (.slice el):=by simpa using q1
    simp only[q1',q2,h]
   .rename_i el _ _ q1 q2;unfold aC;rw[ho]
    have q1':(argTypes[0]?).bind P.underlying=some (.slice el):=by simpa using q1
    simp only[q1',q2,h]
   .cases h
  .cases h
 .exact h
def Ge(P:Program)(ops:Array Oper)(h0:Heap)(k:Nat)(o:Oper)(e:Env)(h:Heap)(K:Value->Heap->Prop)(v:Value)(h1:Heap):Prop :=
 match cls o.op with
 |.read=>(plain v=true\/jk ops k=true\/bp P e.eval o h0=some v)/\K v h1
 |.eff=>(eO ops k=true\/Ext h h1)/\K v h1
 |.call=>(Ext h h1\/eO ops k=true)/\K v h1
 |_=>K v h1
def vY(P:Program)(N:Nat)(c:Code)(e:Env)(h:Heap)(K:X->Env->Heap->Prop):Prop:=∃x e1 h1,aN P N (.loop c) e h (X.bN x) e1 h1/\K x e1 h1
section
variable {P:Program} {N:Nat}
theorem ERel.congr{ι:Inj}{e e':Env}{a:Act}(hn:e'.n=e.n)(hg:∀t,t<e.n->e'.get t=e.get t)(r:ERel ι e a):ERel ι e' a :=
 ⟨r.defers,r.size.trans hn.symm,λt ht=>by rw[hg t (hn ▸ ht)];exact r.get t (hn ▸ ht)⟩
theorem aN.congr{c:Code}{e e':Env}{h h1:Heap}{ex:Exit}{e1:Env}(hn:e'.n=e.n)(hg:∀t,t<e.n->e'.get t=e.get t)(hc:aN P N c e' h ex e1 h1):aN P N c e h ex e1 h1 :=
 ⟨⟨hc.1.1,hc.1.2.trans hn⟩,λι w a H r=>hc.2 ι w a H (r.congr hn hg)⟩
def dJ:List (Nat×Value)->Tr Value
 |[]=>.nil
 |(i,v)::r=>(dJ r).set i v
def holds(l:List (Nat×Value))(e:Env):Prop:=∀p∈l,e.get p.1=p.2
theorem tn{l:List (Nat×Value)}{e:Env}(h:holds l e)(j:Nat):(⟨e.n,dJ l,e.get⟩:Env).get j=e.get j:=by
 induction l with
 |nil=>rfl
 |cons p r ih =>
  have h':holds r e:=λq m=>h q (by simp[m]);have hp:=h p (by simp)
  show (match ((dJ r).set p.1 p.2).get j with|some v=>v|none=>e.get j)=e.get j
  rw[Tr.dq];by_cases c:j=p.1
  .subst c;simp[hp]
  .rw[if_neg c];exact ih h'
theorem aj{P:Program}{ρ:Operand->Value}{t:TypeId}{z:Value}{d:Option Tmp}{ty:TypeId}{pos:String}{af:Array Edge}{g:Option (Nat×Bool)}{l:List Value}(hz:zeroOf P t=some z)(hc:z.cells.toList=l)(hp:l.all aR=true) :
  ew P ρ { dst:=d,op:=.alloc t,type:=ty,pos:=pos,after:=af,guard:=g }=some (.cells l false,λg=>.pointer (some ⟨g,0,none⟩)):=by
 unfold ew;simp only[hz]
 have:z.cells.all aR=true:=by rw[<- Px,hc];exact hp
 rw[if_pos this,hc]
end
end Go.Abs

namespace Go.Abs
theorem HRel.grow{N:Nat}{ι:Inj}{h:Heap}{w w':World}(H:HRel N ι h w)(hs:w.heap.size<=w'.heap.size)(hf:∀b,b<w.heap.size->w'.heap[b]?=w.heap[b]?):HRel N ι h w' :=
 ⟨H.dom,λg l e=>Mr (H.blk g l e) hs,H.glob,λg l o e1 e2=>by rw[hf _ (H.blk g l e1)];exact H.obj g l o e1 e2,H.apart,λb C e=>(by
  obtain⟨ty,fr,q⟩:=H.frz b C e;rw[hf b (L3.1 q).1]
  exact⟨ty,fr,q⟩),H.fzap,H.rofz⟩
theorem Step.grow{N:Nat}{ι:Inj}{h:Heap}{w w':World}(dom:∀g l,ι g=some l->g<h.size)(hs:w.heap.size<=w'.heap.size)(hf:∀b,b<w.heap.size->w'.heap[b]?=w.heap[b]?)
  (out:w'.output=w.output/\w'.os=w.os/\w'.tape=w.tape/\(N=0->w.drawn<=w'.drawn)):Step N ι h w ι h w' :=
 ⟨dom,LV _,Inj.Le.refl ι,λg l e e'=>(by rw[e'] at e;cases e),λg l e e'=>(by rw[e'] at e;cases e),λ_ _ m=>m,λ_ _ m=>m,hs,λb hb _=>hf b hb,λ_ _ _=>rfl,out,λb C e e'=>(by rw[e'] at e;cases e)⟩
theorem bB.cv{ι:Inj}{vs vs':Array Value}(r:bB ι vs vs')(hall:vs.all plain=true):vs'=vs:=by
 apply Q0 r.1.symm;intro i h1 h2;have q:=r.2 i
 have hp':plain (vs.getD i undef)=true:=by
  rw[LW,Me h2];exact (MJ.1 hall) _ (PT h2)
 have:=q.cv hp';rw[LW,LW,Me h1,Me h2] at this;simpa using this
theorem bB.uB{ι:Inj}{vs:Array Value}(hall:vs.all plain=true):bB ι vs vs:=by
 refine⟨rfl,λi=>?_⟩;rw[LW]
 cases e:vs[i]? with
 |none=>exact VRel.nothing ι
 |some v=>exact VRel.aU ((MJ.1 hall) v (M5 e))
def oR(v:Value):Bool :=
 match v with
 |.tuple vs=>vs.all plain
 |v=>plain v
theorem VRel.rK{ι:Inj}{v v':Value}(r:VRel ι v v')(h:oR v=true):v'=v:=by
 cases v with
 |tuple vs =>
  cases r with
  |tuple a a' h1 h2=>exact congrArg Value.tuple (bB.cv ⟨h1,h2⟩ h)
  |unit=>rfl
 |_=>exact r.cv h
theorem VRel.mY{ι:Inj}{v:Value}(h:oR v=true):VRel ι v v:=by
 cases v with
 |tuple vs =>
  have:=bB.uB (ι:=ι) (vs:=vs) h;exact .tuple _ _ this.1 this.2
 |_=>exact VRel.aU h
def Bears(N:Nat)(h0 h:Heap):Prop:=h0.size=N/\N<=h.size/\∀g o,h0.get g=some o->o=.dead\/∃cs,o=.cells cs true/\h.get g=some o/\cs.all plain=true
theorem al.lift{P:Program}{N:Nat}{f:FuncId}{vs:Array Value}{v:Value}{h0 h0' h:Heap}(c:al P N f vs h0 v h0')(hvs:vs.all plain=true)(hv:oR v=true)(b:Bears N h0 h):al P N f vs h v h:=by
 obtain⟨hN,hle,hb⟩:=b;refine⟨LV _,λι w vs' H r=>?_⟩;have hvv:=r.cv hvs;subst hvv
 have nomut:∀g,¬ h0.mut g:=by
  rintro g ⟨o,e,m⟩
  rcases hb g o e with rfl|⟨cs,rfl,_⟩
  .cases m
  .cases m
 have hι:∀g l,(cut ι N) g=some l->g<N/\ι g=some l:=λg l e=>aO.1 e
 have H0:HRel N (cut ι N) h0 w:=by
  refine⟨λg l e=>hN ▸ (hι g l e).1,λg l e=>H.blk g l (hι g l e).2,?_,?_,λg g' l l' _ _ _ m _=>absurd m (nomut g),H.frz,λb C g l _ _ m=>absurd m (nomut g),λg l cs e1 e2=>?_⟩;rotate_left 2
  .rcases hb g _ e2 with q|⟨cs',q,e3,_⟩
   .cases q
   .cases q
    exact H.rofz g l cs (hι g l e1).2 e3
  .intro g hg;obtain⟨l,e1,e2⟩:=H.glob g hg;exact⟨l,aO.2 ⟨hg,e1⟩,e2⟩
  .intro g l o e1 e2
   rcases hb g o e2 with rfl|⟨cs,rfl,e3,hp⟩
   .trivial
   .obtain⟨C,ty,fr,k1,k2,k3,k4,k5⟩:=H.obj g l _ (hι g l e1).2 e3;refine⟨C,ty,fr,k1,k2,k3,k4,λi x hx=>?_⟩;obtain⟨x',q1,q2⟩:=k5 i x hx
    have px:plain x=true:=by
     have:=Md.1 hp x (LS hx);exact this
    rw[q2.cv px] at q1;exact⟨x,q1,VRel.aU px⟩
 rcases c.2 _ w vs' H0 (bB.uB hvs) with⟨ok,hc⟩|⟨v',e1,e2,_⟩
 .refine .inl ⟨ok,hc.mono λe w' q=>?_⟩;obtain⟨ι',v',rfl,r',_,S⟩:=q;rw[r'.rK hv];have hf:∀b,b<w.heap.size->w'.heap[b]?=w.heap[b]?:=λb hb=>S.frame b hb λg l _ m=>absurd m (nomut g);exact⟨ι,v,rfl,VRel.mY hv,H.grow S.wsize hf,Step.grow H.dom S.wsize hf S.out⟩
 .rw[e2.rK hv] at e1;exact .inr ⟨v,e1,VRel.mY hv,rfl⟩
def cj(l:List AObj):Heap:=⟨l.length,slotsO 0 l,l.length⟩
where slotsO:Nat->List AObj->Tr AObj
 |_,[]=>.nil
 |i,o::r=>(slotsO (i+1) r).set i o
theorem xp:∀(l:List AObj) (i g:Nat),(cj.slotsO i l).get g=if i<=g then l[g-i]? else none
 |[],i,g=>by simp[cj.slotsO,Tr.get]
 |o::r,i,g=>by
  simp only[cj.slotsO,Tr.dq];by_cases e:g=i
  .subst e;simp
  .rw[if_neg e,xp r (i+1) g];by_cases c:i+1<=g
   .have:i<=g:=by omega
    rw[if_pos c,if_pos this]
    have:g-i=(g-(i+1))+1:=by omega
    rw[this,M9]
   .have:¬ i<=g:=by omega
    rw[if_neg c,if_neg this]
theorem eh(l:List AObj)(g:Nat):(cj l).get g=l[g]?:=by
 unfold Heap.get cj;simp only[xp];by_cases c:g<l.length
 .simp[c]
 .simp[c]
end Go.Abs
