/-
  AbsS, AbsT, AbsU: parts of the proof.
-/
import Derived.Test.YtgiedjgdlckahaaGreatDoorTk19
namespace Go.Abs
def ni (P:Program) (f:FuncId) (vs:Array Value) (_:Heap):Option Value :=
 match P.funcs[f]? with
 |none=>none
 |some fn =>
  match fn.body with
  |some _=>none
  |none =>
   match vs.all plain with
   |false=>none
   |true =>
    match bK P (callFunc f vs) with
    |some (.value v)=>match plain v with
     |true=>some v
     |false=>none
    |_=>none
theorem gS {P:Program}{N:Nat} (f:FuncId) (vs:Array Value) (h:Heap) (v:Value) (e:ni P f vs h=some v):CallD P N f vs h v h:=by
 unfold ni at e;split at e
 ·cases e
 ·split at e
  ·cases e
  ·split at e
   ·cases e
   ·rename_i hall;split at e
    ·rename_i v0 hp;split at e
     ·rename_i hv;simp only[Option.some.injEq] at e;subst e;refine⟨Nat.le_refl _,fun ι w vs' _ r=>.inr ⟨v0,?_,VRel.aN hv,rfl⟩⟩
      have:vs'=vs:=by
       apply Array.ext r.1.symm;intro i h1 h2;have q:=r.2 i
       have hp':plain (vs.getD i undef)=true:=by
        rw[Array.getD_eq_getD_getElem?,Array.getElem?_eq_getElem h2];exact (Array.all_eq_true_iff_forall_mem.1 hall) _ (Array.getElem_mem h2)
       have:=q.bS hp';rw[Array.getD_eq_getD_getElem?,Array.getD_eq_getD_getElem?,Array.getElem?_eq_getElem h1,Array.getElem?_eq_getElem h2] at this;simpa using this
      rw[this];exact tt hp w
     ·cases e
    ·cases e
end Go.Abs

namespace Go.Abs
def BL (v:Value) (K:Value->Prop):Prop :=
 match v with
 |.bool b=>K (.bool b)
 |.int k n=>K (.int k n)
 |.float k n=>K (.float k n)
 |.complex k a b=>K (.complex k a b)
 |.string s=>K (.string s)
 |.pointer a=>K (.pointer a)
 |.slice a n c=>K (.slice a n c)
 |.map r=>K (.map r)
 |.chan r=>K (.chan r)
 |.func f a b=>K (.func f a b)
 |.nilFunc=>K .nilFunc
 |.iface t v=>K (.iface t v)
 |.nilIface=>K .nilIface
 |.agg cs=>K (.agg cs)
 |.tuple cs=>K (.tuple cs)
theorem yE {v:Value}{K:Value->Prop}:BL v K↔K v:=by cases v <;> exact Iff.rfl
def tN (l:List Value) (K:List Value->Prop):Prop :=
 match l with
 |[]=>K []
 |v::r=>BL v fun v=>tN r fun r=>K (v::r)
theorem cC:∀ {l:List Value}{K:List Value->Prop},tN l K↔K l
 |[],_=>Iff.rfl
 |v::r,K=>by
  unfold tN;rw[yE,cC]
def oU (a:Array Value) (K:Array Value->Prop):Prop :=
 match a with
 |⟨l⟩=>tN l fun l=>K ⟨l⟩
theorem lV {a:Array Value}{K:Array Value->Prop}:oU a K↔K a:=by
 cases a;exact cC
def Tr.yJ {α:Type} (x:α):Nat->Tr α->Nat->(Tr α->Prop)->Prop
 |0,t,_,K=>K t
 |f+1,.nil,n,K =>
  match decide (n=0) with
  |true=>K (.node .nil (some x) .nil)
  |false=>match decide (n%2=1) with
   |true=>Tr.yJ x f .nil (n/2) fun t=>K (.node t none .nil)
   |false=>Tr.yJ x f .nil (n/2-1) fun t=>K (.node .nil none t)
 |f+1,.node l v r,n,K =>
  match decide (n=0) with
  |true=>K (.node l (some x) r)
  |false=>match decide (n%2=1) with
   |true=>Tr.yJ x f l (n/2) fun t=>K (.node t v r)
   |false=>Tr.yJ x f r (n/2-1) fun t=>K (.node l v t)
theorem Tr.mI {α:Type} (x:α):∀ (f:Nat) (t:Tr α) (n:Nat) (K:Tr α->Prop),Tr.yJ x f t n K↔K (Tr.uj f t n x)
 |0,_,_,_=>Iff.rfl
 |f+1,.nil,n,K=>by
  unfold Tr.yJ Tr.uj;by_cases h:n=0
  ·simp[h]
  ·by_cases h2:n%2=1
   ·simp only[h,h2,decide_false,decide_true,if_false,if_true];exact Tr.mI x f _ _ _
   ·simp only[h,h2,decide_false,if_false];exact Tr.mI x f _ _ _
 |f+1,.node l v r,n,K=>by
  unfold Tr.yJ Tr.uj;by_cases h:n=0
  ·simp[h]
  ·by_cases h2:n%2=1
   ·simp only[h,h2,decide_false,decide_true,if_false,if_true];exact Tr.mI x f _ _ _
   ·simp only[h,h2,decide_false,if_false];exact Tr.mI x f _ _ _
def ff {α:Type}:Tr α->(Tr α->Prop)->Prop
 |.nil,K=>K .nil
 |.node l v r,K=>ff l fun l=>ff r fun r=>match v with
  |none=>K (.node l none r)
  |some x=>K (.node l (some x) r)
theorem cr {α:Type}:∀ (t:Tr α) (K:Tr α->Prop),ff t K↔K t
 |.nil,_=>Iff.rfl
 |.node l v r,K=>by
  unfold ff;rw[cr l,cr r]
  cases v <;> exact Iff.rfl
def nz (ρ:Operand->Value) (op:Op):Option (FuncId×List Value) :=
 match op with
 |.call { callee:=.value f,args,.. } =>
  match ρ f with
  |.func (.func f) first captured=>some (f,first.toList++(args.toList.map ρ++captured.toList))
  |_=>none
 |_=>none
theorem Af {ρ:Operand->Value}{op:Op}{f:FuncId}{l:List Value} (h:nz ρ op=some (f,l)):js ρ op=some (f,⟨l⟩):=by
 cases op <;> try (simp[nz] at h;done)
 rename_i c;obtain⟨callee,args,argTypes⟩:=c
 cases callee <;> try (simp[nz] at h;done)
 rename_i x;simp only[nz] at h;simp only[js];split at h
 ·rename_i g first captured hq
  simp only[Option.some.injEq,Prod.mk.injEq] at h;obtain⟨rfl,rfl⟩:=h;rw[hq];simp only[Option.some.injEq,Prod.mk.injEq,true_and];apply Array.ext';simp
 ·cases h
def I6 (P:Program) (ρ:Operand->Value) (o:Oper):Option Value :=
 match o.op with
 |.convert .. => none
 |.build t ps=>match uO P t (ps.toList.map fun p=>(p.1,ρ p.2)) with
  |some l=>some (.agg ⟨l⟩)
  |none=>none
 |.field t x i =>
  match P.underlying t,ρ x with
  |some (.struct fs),.agg cs=>match fs[i]? with
   |some f=>EH P f.type cs f.offset
   |none=>none
  |_,_=>none
 |.binOp op t x y _=>match quick (P.underlying t) op (ρ x) (ρ y) with
  |some v=>some v
  |none=>match op with
   |.eql=>match P.underlying t with
    |some d=>match mf d (ρ x) (ρ y) with
     |some b=>some (.bool b)
     |none=>none
    |none=>none
   |.neq=>match P.underlying t with
    |some d=>match mf d (ρ x) (ρ y) with
     |some b=>some (.bool !b)
     |none=>none
    |none=>none
   |_=>none
 |.unOp op _ x =>
  match op,ρ x with
  |.not,.bool b=>some (.bool !b)
  |_,_=>none
 |.index t _ _ =>
  match P.underlying t with
  |some .string=>none
  |_=>aq P ρ o
 |.slice t _ _ _ _ =>
  match P.underlying t with
  |some .string=>none
  |_=>aq P ρ o
 |.call { callee:=.builtin b,argTypes,args } =>
  match b with
  |.len =>
   match (argTypes.toList[0]?).bind P.underlying,args.toList.map ρ with
   |some (.slice _),[.slice _ n _]=>some (goInt n)
   |some (.slice _),[.iface _ (.tuple ⟨es⟩)]=>some (goInt es.length)
   |some (.slice _),[.iface _ (.bool _)]=>some (goInt 0)
   |_,_=>none
  |_=>none
 |_=>aq P ρ o
theorem HU {P:Program}{ρ:Operand->Value}{o:Oper}{v:Value} (h:I6 P ρ o=some v):aq P ρ o=some v:=by
 unfold I6 at h;split at h
 ·cases h
 ·rename_i t ps ho;split at h
  ·rename_i l hl
   cases h
   obtain⟨z,h1,h2,h3⟩:=C9 hl;unfold aq;rw[ho];simp only[h1,h2,if_true,h3,Option.map_some]
  ·cases h
 ·rename_i t x i ho;split at h
  ·rename_i fs cs hu hx;split at h
   ·rename_i f hf;unfold aq;rw[ho];simp only[hu,hx,hf];exact FX h
   ·cases h
  ·cases h
 ·rename_i op t x y ty ho;unfold aq;rw[ho];split at h
  ·rename_i hq
   cases h
   simp only[hq]
  ·rename_i hq;simp only[hq];split at h
   ·split at h
    ·rename_i d hu;split at h
     ·rename_i b hb
      cases h
      simp only[hu,hb]
     ·cases h
    ·cases h
   ·split at h
    ·rename_i d hu;split at h
     ·rename_i b hb
      cases h
      simp only[hu,hb]
     ·cases h
    ·cases h
   ·cases h
 ·rename_i op t x ho;unfold aq;rw[ho];split at h
  ·rename_i q;simp only[Option.some.injEq] at h;subst h;simp only[q]
  ·cases h
 ·split at h
  ·cases h
  ·exact h
 ·split at h
  ·cases h
  ·exact h
 ·rename_i b args argTypes ho;split at h
  ·split at h
   ·rename_i el _ _ _ q1 q2;unfold aq;rw[ho]
    have q1':(argTypes[0]?).bind P.underlying=some (.slice el):=by simpa using q1
    simp only[q1',q2,h]
   ·rename_i el _ _ q1 q2;unfold aq;rw[ho]
    have q1':(argTypes[0]?).bind P.underlying=some (.slice el):=by simpa using q1
    simp only[q1',q2,h]
   ·rename_i el _ _ q1 q2;unfold aq;rw[ho]
    have q1':(argTypes[0]?).bind P.underlying=some (.slice el):=by simpa using q1
    simp only[q1',q2,h]
   ·cases h
  ·cases h
 ·exact h
def Er (P:Program) (ops:Array Oper) (h0:Heap) (k:Nat) (o:Oper) (e:Env) (h:Heap) (K:Value->Heap->Prop) (v:Value) (h1:Heap):Prop :=
 match cls o.op with
 |.read=>(plain v=true\/gN ops k=true\/aT P e.eval o h0=some v)/\K v h1
 |.eff=>(dD ops k=true\/Ext h h1)/\K v h1
 |.call=>(Ext h h1\/dD ops k=true)/\K v h1
 |_=>K v h1
def tZ (P:Program) (N:Nat) (c:Code) (e:Env) (h:Heap) (K:X->Env->Heap->Prop):Prop:=∃ x e1 h1,CodeD P N (.loop c) e h (X.toExit x) e1 h1/\K x e1 h1
section
variable {P:Program} {N:Nat}
theorem ERel.congr {ι:Inj}{e e':Env}{a:Act} (hn:e'.n=e.n) (hg:∀ t,t<e.n->e'.get t=e.get t) (r:ERel ι e a):ERel ι e' a :=
 ⟨r.defers,r.size.trans hn.symm,fun t ht=>by rw[hg t (hn ▸ ht)];exact r.get t (hn ▸ ht)⟩
theorem CodeD.congr {c:Code}{e e':Env}{h h1:Heap}{ex:Exit}{e1:Env} (hn:e'.n=e.n) (hg:∀ t,t<e.n->e'.get t=e.get t) (hc:CodeD P N c e' h ex e1 h1):CodeD P N c e h ex e1 h1 :=
 ⟨⟨hc.1.1,hc.1.2.trans hn⟩,fun ι w a H r=>hc.2 ι w a H (r.congr hn hg)⟩
def eA:List (Nat×Value)->Tr Value
 |[]=>.nil
 |(i,v)::r=>(eA r).set i v
def holds (l:List (Nat×Value)) (e:Env):Prop:=∀ p∈l,e.get p.1=p.2
theorem rG {l:List (Nat×Value)}{e:Env} (h:holds l e) (j:Nat):(⟨e.n,eA l,e.get⟩:Env).get j=e.get j:=by
 induction l with
 |nil=>rfl
 |cons p r ih =>
  have h':holds r e:=fun q m=>h q (by simp[m]);have hp:=h p (by simp)
  show (match ((eA r).set p.1 p.2).get j with|some v=>v|none=>e.get j)=e.get j
  rw[Tr.dq];by_cases c:j=p.1
  ·subst c;simp[hp]
  ·rw[if_neg c];exact ih h'
theorem ai {P:Program}{ρ:Operand->Value}{t:TypeId}{z:Value}{d:Option Tmp}{ty:TypeId}{pos:String}{af:Array Edge}{g:Option (Nat×Bool)}{l:List Value} (hz:zeroOf P t=some z) (hc:z.cells.toList=l) (hp:l.all aJ=true) :
  anew P ρ { dst:=d,op:=.alloc t,type:=ty,pos:=pos,after:=af,guard:=g }=some (.cells l false,fun g=>.pointer (some ⟨g,0,none⟩)):=by
 unfold anew;simp only[hz]
 have:z.cells.all aJ=true:=by rw[<- Array.all_toList,hc];exact hp
 rw[if_pos this,hc]
end
end Go.Abs

namespace Go.Abs
theorem HRel.grow {N:Nat}{ι:Inj}{h:Heap}{w w':World} (H:HRel N ι h w) (hs:w.heap.size<=w'.heap.size) (hf:∀ b,b<w.heap.size->w'.heap[b]?=w.heap[b]?):HRel N ι h w' :=
 ⟨H.dom,fun g l e=>Nat.lt_of_lt_of_le (H.blk g l e) hs,H.glob,fun g l o e1 e2=>by rw[hf _ (H.blk g l e1)];exact H.obj g l o e1 e2,H.apart,fun b C e=>(by
  obtain⟨ty,fr,q⟩:=H.frz b C e;rw[hf b (Array.getElem?_eq_some_iff.1 q).1]
  exact⟨ty,fr,q⟩),H.fzap,H.rofz⟩
theorem Step.grow {ι:Inj}{h:Heap}{w w':World} (dom:∀ g l,ι g=some l->g<h.size) (hs:w.heap.size<=w'.heap.size) (hf:∀ b,b<w.heap.size->w'.heap[b]?=w.heap[b]?)
  (out:w'.output=w.output/\w'.os=w.os/\w'.tape=w.tape/\w.drawn<=w'.drawn):Step ι h w ι h w' :=
 ⟨dom,Nat.le_refl _,Inj.Le.refl ι,fun g l e e'=>(by rw[e'] at e;cases e),fun g l e e'=>(by rw[e'] at e;cases e),fun _ _ m=>m,fun _ _ m=>m,hs,fun b hb _=>hf b hb,fun _ _ _=>rfl,out,fun b C e e'=>(by rw[e'] at e;cases e)⟩
theorem bm.bS {ι:Inj}{vs vs':Array Value} (r:bm ι vs vs') (hall:vs.all plain=true):vs'=vs:=by
 apply Array.ext r.1.symm;intro i h1 h2;have q:=r.2 i
 have hp':plain (vs.getD i undef)=true:=by
  rw[Array.getD_eq_getD_getElem?,Array.getElem?_eq_getElem h2];exact (Array.all_eq_true_iff_forall_mem.1 hall) _ (Array.getElem_mem h2)
 have:=q.bS hp';rw[Array.getD_eq_getD_getElem?,Array.getD_eq_getD_getElem?,Array.getElem?_eq_getElem h1,Array.getElem?_eq_getElem h2] at this;simpa using this
theorem bm.rK {ι:Inj}{vs:Array Value} (hall:vs.all plain=true):bm ι vs vs:=by
 refine⟨rfl,fun i=>?_⟩;rw[Array.getD_eq_getD_getElem?]
 cases e:vs[i]? with
 |none=>exact VRel.nothing ι
 |some v=>exact VRel.aN ((Array.all_eq_true_iff_forall_mem.1 hall) v (Array.mem_of_getElem? e))
def jm (v:Value):Bool :=
 match v with
 |.tuple vs=>vs.all plain
 |v=>plain v
theorem VRel.nE {ι:Inj}{v v':Value} (r:VRel ι v v') (h:jm v=true):v'=v:=by
 cases v with
 |tuple vs =>
  cases r with
  |tuple a a' h1 h2=>exact congrArg Value.tuple (bm.bS ⟨h1,h2⟩ h)
  |unit=>rfl
 |_=>exact r.bS h
theorem VRel.jK {ι:Inj}{v:Value} (h:jm v=true):VRel ι v v:=by
 cases v with
 |tuple vs =>
  have:=bm.rK (ι:=ι) (vs:=vs) h;exact .tuple _ _ this.1 this.2
 |_=>exact VRel.aN h
def Bears (N:Nat) (h0 h:Heap):Prop:=h0.size=N/\N<=h.size/\∀ g o,h0.get g=some o->o=.dead\/∃ cs,o=.cells cs true/\h.get g=some o/\cs.all plain=true
theorem CallD.lift {P:Program}{N:Nat}{f:FuncId}{vs:Array Value}{v:Value}{h0 h0' h:Heap} (c:CallD P N f vs h0 v h0') (hvs:vs.all plain=true) (hv:jm v=true) (b:Bears N h0 h):CallD P N f vs h v h:=by
 obtain⟨hN,hle,hb⟩:=b;refine⟨Nat.le_refl _,fun ι w vs' H r=>?_⟩;have hvv:=r.bS hvs;subst hvv
 have nomut:∀ g,¬ h0.mut g:=by
  rintro g ⟨o,e,m⟩
  rcases hb g o e with rfl|⟨cs,rfl,_⟩
  ·cases m
  ·cases m
 have hι:∀ g l,(cut ι N) g=some l->g<N/\ι g=some l:=fun g l e=>aG.1 e
 have H0:HRel N (cut ι N) h0 w:=by
  refine⟨fun g l e=>hN ▸ (hι g l e).1,fun g l e=>H.blk g l (hι g l e).2,?_,?_,fun g g' l l' _ _ _ m _=>absurd m (nomut g),H.frz,fun b C g l _ _ m=>absurd m (nomut g),fun g l cs e1 e2=>?_⟩;rotate_left 2
  ·rcases hb g _ e2 with q|⟨cs',q,e3,_⟩
   ·cases q
   ·cases q
    exact H.rofz g l cs (hι g l e1).2 e3
  ·intro g hg;obtain⟨l,e1,e2⟩:=H.glob g hg;exact⟨l,aG.2 ⟨hg,e1⟩,e2⟩
  ·intro g l o e1 e2
   rcases hb g o e2 with rfl|⟨cs,rfl,e3,hp⟩
   ·trivial
   ·obtain⟨C,ty,fr,k1,k2,k3,k4,k5⟩:=H.obj g l _ (hι g l e1).2 e3;refine⟨C,ty,fr,k1,k2,k3,k4,fun i x hx=>?_⟩;obtain⟨x',q1,q2⟩:=k5 i x hx
    have px:plain x=true:=by
     have:=List.all_eq_true.1 hp x (List.mem_of_getElem? hx);exact this
    rw[q2.bS px] at q1;exact⟨x,q1,VRel.aN px⟩
 rcases c.2 _ w vs' H0 (bm.rK hvs) with⟨ok,hc⟩|⟨v',e1,e2,_⟩
 ·refine .inl ⟨ok,hc.mono fun e w' q=>?_⟩;obtain⟨ι',v',rfl,r',_,S⟩:=q;rw[r'.nE hv];have hf:∀ b,b<w.heap.size->w'.heap[b]?=w.heap[b]?:=fun b hb=>S.frame b hb fun g l _ m=>absurd m (nomut g);exact⟨ι,v,rfl,VRel.jK hv,H.grow S.wsize hf,Step.grow H.dom S.wsize hf S.out⟩
 ·rw[e2.nE hv] at e1;exact .inr ⟨v,e1,VRel.jK hv,rfl⟩
def bJ (l:List AObj):Heap:=⟨l.length,slotsO 0 l,l.length⟩
where slotsO:Nat->List AObj->Tr AObj
 |_,[]=>.nil
 |i,o::r=>(slotsO (i+1) r).set i o
theorem uo:∀ (l:List AObj) (i g:Nat),(bJ.slotsO i l).get g=if i<=g then l[g-i]? else none
 |[],i,g=>by simp[bJ.slotsO,Tr.get]
 |o::r,i,g=>by
  simp only[bJ.slotsO,Tr.dq];by_cases e:g=i
  ·subst e;simp
  ·rw[if_neg e,uo r (i+1) g];by_cases c:i+1<=g
   ·have:i<=g:=by omega
    rw[if_pos c,if_pos this]
    have:g-i=(g-(i+1))+1:=by omega
    rw[this,List.getElem?_cons_succ]
   ·have:¬ i<=g:=by omega
    rw[if_neg c,if_neg this]
theorem dm (l:List AObj) (g:Nat):(bJ l).get g=l[g]?:=by
 unfold Heap.get bJ;simp only[uo];by_cases c:g<l.length
 ·simp[c]
 ·simp[c]
end Go.Abs
