/-
  AbsT: parts of the proof.
-/
import Derived.Test.YtobphhjcadjfjaaDoorSg21
namespace Go.Abs
def uS (v:Value) (K:Value->Prop):Prop :=
 match v with
 |.bool b=>K (.bool b)
 |.int k n=>K (.int k n)
 |.float k n=>K (.float k n)
 |.complex k a b=>K (.complex k a b)
 |.string s=>K (.string s)
 |.pointer a=>K (.pointer a)
 |.slice a n c=>K (.slice a n c)
 |.map r=>K (.map r)
 |.chan r=>K (.chan r)
 |.func f a b=>K (.func f a b)
 |.nilFunc=>K .nilFunc
 |.iface t v=>K (.iface t v)
 |.nilIface=>K .nilIface
 |.agg cs=>K (.agg cs)
 |.tuple cs=>K (.tuple cs)
theorem sV {v:Value}{K:Value->Prop}:uS v K↔K v:=by cases v <;> exact Iff.rfl
def po (l:List Value) (K:List Value->Prop):Prop :=
 match l with
 |[]=>K []
 |v::r=>uS v fun v=>po r fun r=>K (v::r)
theorem lf:∀ {l:List Value}{K:List Value->Prop},po l K↔K l
 |[],_=>Iff.rfl
 |v::r,K=>by
  unfold po
  rw[sV,lf]
def kU (a:Array Value) (K:Array Value->Prop):Prop :=
 match a with
 |⟨l⟩=>po l fun l=>K ⟨l⟩
theorem iR {a:Array Value}{K:Array Value->Prop}:kU a K↔K a:=by
 cases a;exact lf
def Tr.ss {α:Type} (x:α):Nat->Tr α->Nat->(Tr α->Prop)->Prop
 |0,t,_,K=>K t
 |f+1,.nil,n,K =>
  match decide (n=0) with
  |true=>K (.node .nil (some x) .nil)
  |false=>match decide (n%2=1) with
   |true=>Tr.ss x f .nil (n/2) fun t=>K (.node t none .nil)
   |false=>Tr.ss x f .nil (n/2-1) fun t=>K (.node .nil none t)
 |f+1,.node l v r,n,K =>
  match decide (n=0) with
  |true=>K (.node l (some x) r)
  |false=>match decide (n%2=1) with
   |true=>Tr.ss x f l (n/2) fun t=>K (.node t v r)
   |false=>Tr.ss x f r (n/2-1) fun t=>K (.node l v t)
theorem Tr.jT {α:Type} (x:α):∀ (f:Nat) (t:Tr α) (n:Nat) (K:Tr α->Prop),Tr.ss x f t n K↔K (Tr.pb f t n x)
 |0,_,_,_=>Iff.rfl
 |f+1,.nil,n,K=>by
  unfold Tr.ss Tr.pb
  by_cases h:n=0
  ·simp[h]
  ·by_cases h2:n%2=1
   ·simp only[h,h2,decide_false,decide_true,if_false,if_true];exact Tr.jT x f _ _ _
   ·simp only[h,h2,decide_false,if_false];exact Tr.jT x f _ _ _
 |f+1,.node l v r,n,K=>by
  unfold Tr.ss Tr.pb
  by_cases h:n=0
  ·simp[h]
  ·by_cases h2:n%2=1
   ·simp only[h,h2,decide_false,decide_true,if_false,if_true];exact Tr.jT x f _ _ _
   ·simp only[h,h2,decide_false,if_false];exact Tr.jT x f _ _ _
def dJ {α:Type}:Tr α->(Tr α->Prop)->Prop
 |.nil,K=>K .nil
 |.node l v r,K=>dJ l fun l=>dJ r fun r=>match v with
  |none=>K (.node l none r)
  |some x=>K (.node l (some x) r)
theorem bP {α:Type}:∀ (t:Tr α) (K:Tr α->Prop),dJ t K↔K t
 |.nil,_=>Iff.rfl
 |.node l v r,K=>by
  unfold dJ
  rw[bP l,bP r]
  cases v <;> exact Iff.rfl
def ka (ρ:Operand->Value) (op:Op):Option (FuncId×List Value) :=
 match op with
 |.call { callee:=.value f,args,.. } =>
  match ρ f with
  |.func (.func f) first captured=>some (f,first.toList++(args.toList.map ρ++captured.toList))
  |_=>none
 |_=>none
theorem sl {ρ:Operand->Value}{op:Op}{f:FuncId}{l:List Value} (h:ka ρ op=some (f,l)):fy ρ op=some (f,⟨l⟩):=by
 cases op <;> try (simp[ka] at h;done)
 rename_i c
 obtain⟨callee,args,argTypes⟩:=c
 cases callee <;> try (simp[ka] at h;done)
 rename_i x
 simp only[ka] at h
 simp only[fy]
 split at h
 ·rename_i g first captured hq
  simp only[Option.some.injEq,Prod.mk.injEq] at h
  obtain⟨rfl,rfl⟩:=h
  rw[hq]
  simp only[Option.some.injEq,Prod.mk.injEq,true_and]
  apply Array.ext'
  simp
 ·cases h
def Aj (P:Program) (ρ:Operand->Value) (o:Oper):Option Value :=
 match o.op with
 |.convert .. => none
 |.build t ps=>match ox P t (ps.toList.map fun p=>(p.1,ρ p.2)) with
  |some l=>some (.agg ⟨l⟩)
  |none=>none
 |.field t x i =>
  match P.underlying t,ρ x with
  |some (.struct fs),.agg cs=>match fs[i]? with
   |some f=>xn P f.type cs f.offset
   |none=>none
  |_,_=>none
 |.binOp op t x y _=>match quick (P.underlying t) op (ρ x) (ρ y) with
  |some v=>some v
  |none=>match op with
   |.eql=>match P.underlying t with
    |some d=>match jg d (ρ x) (ρ y) with
     |some b=>some (.bool b)
     |none=>none
    |none=>none
   |.neq=>match P.underlying t with
    |some d=>match jg d (ρ x) (ρ y) with
     |some b=>some (.bool !b)
     |none=>none
    |none=>none
   |_=>none
 |.unOp op _ x =>
  match op,ρ x with
  |.not,.bool b=>some (.bool !b)
  |_,_=>none
 |.index t _ _ =>
  match P.underlying t with
  |some .string=>none
  |_=>an P ρ o
 |.slice t _ _ _ _ =>
  match P.underlying t with
  |some .string=>none
  |_=>an P ρ o
 |.call { callee:=.builtin b,argTypes,args } =>
  match b with
  |.len =>
   match (argTypes.toList[0]?).bind P.underlying,args.toList.map ρ with
   |some (.slice _),[.slice _ n _]=>some (goInt n)
   |some (.slice _),[.iface _ (.tuple ⟨es⟩)]=>some (goInt es.length)
   |some (.slice _),[.iface _ (.bool _)]=>some (goInt 0)
   |_,_=>none
  |_=>none
 |_=>an P ρ o
theorem zK {P:Program}{ρ:Operand->Value}{o:Oper}{v:Value} (h:Aj P ρ o=some v):an P ρ o=some v:=by
 unfold Aj at h
 split at h
 ·cases h
 ·rename_i t ps ho
  split at h
  ·rename_i l hl
   cases h
   obtain⟨z,h1,h2,h3⟩:=wx hl
   unfold an
   rw[ho]
   simp only[h1,h2,if_true,h3,Option.map_some]
  ·cases h
 ·rename_i t x i ho
  split at h
  ·rename_i fs cs hu hx
   split at h
   ·rename_i f hf
    unfold an
    rw[ho]
    simp only[hu,hx,hf]
    exact xD h
   ·cases h
  ·cases h
 ·rename_i op t x y ty ho
  unfold an
  rw[ho]
  split at h
  ·rename_i hq
   cases h
   simp only[hq]
  ·rename_i hq
   simp only[hq]
   split at h
   ·split at h
    ·rename_i d hu
     split at h
     ·rename_i b hb
      cases h
      simp only[hu,hb]
     ·cases h
    ·cases h
   ·split at h
    ·rename_i d hu
     split at h
     ·rename_i b hb
      cases h
      simp only[hu,hb]
     ·cases h
    ·cases h
   ·cases h
 ·rename_i op t x ho
  unfold an
  rw[ho]
  split at h
  ·rename_i q
   simp only[Option.some.injEq] at h
   subst h
   simp only[q]
  ·cases h
 ·split at h
  ·cases h
  ·exact h
 ·split at h
  ·cases h
  ·exact h
 ·rename_i b args argTypes ho
  split at h
  ·split at h
   ·rename_i el _ _ _ q1 q2
    unfold an
    rw[ho]
    have q1':(argTypes[0]?).bind P.underlying=some (.slice el):=by simpa using q1
    simp only[q1',q2,h]
   ·rename_i el _ _ q1 q2
    unfold an
    rw[ho]
    have q1':(argTypes[0]?).bind P.underlying=some (.slice el):=by simpa using q1
    simp only[q1',q2,h]
   ·rename_i el _ _ q1 q2
    unfold an
    rw[ho]
    have q1':(argTypes[0]?).bind P.underlying=some (.slice el):=by simpa using q1
    simp only[q1',q2,h]
   ·cases h
  ·cases h
 ·exact h
def yd (P:Program) (ops:Array Oper) (h0:Heap) (k:Nat) (o:Oper) (e:Env) (h:Heap) (K:Value->Heap->Prop) (v:Value) (h1:Heap):Prop :=
 match cls o.op with
 |.read=>(plain v=true\/er ops k=true\/aK P e.eval o h0=some v)/\K v h1
 |.eff=>(dg ops k=true\/Ext h h1)/\K v h1
 |.call=>(Ext h h1\/dg ops k=true)/\K v h1
 |_=>K v h1
def oJ (P:Program) (N:Nat) (c:Code) (e:Env) (h:Heap) (K:X->Env->Heap->Prop):Prop:=∃ x e1 h1,CodeD P N (.loop c) e h (X.toExit x) e1 h1/\K x e1 h1
section
variable {P:Program} {N:Nat}
theorem ERel.congr {ι:Inj}{e e':Env}{a:Act} (hn:e'.n=e.n) (hg:∀ t,t<e.n->e'.get t=e.get t) (r:ERel ι e a):ERel ι e' a :=
 ⟨r.defers,r.size.trans hn.symm,fun t ht=>by rw[hg t (hn ▸ ht)];exact r.get t (hn ▸ ht)⟩
theorem CodeD.congr {c:Code}{e e':Env}{h h1:Heap}{ex:Exit}{e1:Env} (hn:e'.n=e.n) (hg:∀ t,t<e.n->e'.get t=e.get t) (hc:CodeD P N c e' h ex e1 h1):CodeD P N c e h ex e1 h1 :=
 ⟨⟨hc.1.1,hc.1.2.trans hn⟩,fun ι w a H r=>hc.2 ι w a H (r.congr hn hg)⟩
def dw:List (Nat×Value)->Tr Value
 |[]=>.nil
 |(i,v)::r=>(dw r).set i v
def holds (l:List (Nat×Value)) (e:Env):Prop:=∀ p∈l,e.get p.1=p.2
theorem mM {l:List (Nat×Value)}{e:Env} (h:holds l e) (j:Nat):(⟨e.n,dw l,e.get⟩:Env).get j=e.get j:=by
 induction l with
 |nil=>rfl
 |cons p r ih =>
  have h':holds r e:=fun q m=>h q (by simp[m])
  have hp:=h p (by simp)
  show (match ((dw r).set p.1 p.2).get j with|some v=>v|none=>e.get j)=e.get j
  rw[Tr.cS]
  by_cases c:j=p.1
  ·subst c;simp[hp]
  ·rw[if_neg c];exact ih h'
theorem ak {P:Program}{ρ:Operand->Value}{t:TypeId}{z:Value}{d:Option Tmp}{ty:TypeId}{pos:String}{af:Array Edge}{g:Option (Nat×Bool)}{l:List Value} (hz:zeroOf P t=some z) (hc:z.cells.toList=l) (hp:l.all aF=true) :
  anew P ρ { dst:=d,op:=.alloc t,type:=ty,pos:=pos,after:=af,guard:=g }=some (.cells l false,fun g=>.pointer (some ⟨g,0,none⟩)):=by
 unfold anew
 simp only[hz]
 have:z.cells.all aF=true:=by rw[<- Array.all_toList,hc];exact hp
 rw[if_pos this,hc]
end
end Go.Abs
