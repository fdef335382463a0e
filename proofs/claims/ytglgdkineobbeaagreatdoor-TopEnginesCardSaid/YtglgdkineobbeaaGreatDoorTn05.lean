/- Parts of the proof. -/
import Derived.Test.YtglgdkineobbeaaGreatDoorTn04
open Go.Instr renaming sliceBound->R3,sliceBounds->RV
open Nat renaming beq->NZ,ble->NK
namespace Go.Abs
theorem Ex{P:Program}{ι:Inj}{t:TypeId}{ρ ρ':Operand->Value}{ps:List (Nat×Operand)}{cells:Array Value}(hz:∀z,zeroOf P t=some z->z.cells.all aR=true)
  (hp:∀p∈ps,VRel ι (ρ p.2) (ρ' p.2)) (h:P.built t (ps.map λp=>(p.1,ρ p.2))=some cells) :
  ∃cells',P.built t (ps.map λp=>(p.1,ρ' p.2))=some cells'/\bB ι cells cells':=by
 unfold Program.built at h ⊢
 cases hi:P.info? t with
 |none=>simp[hi] at h
 |some i =>
  cases hu:P.underlying t with
  |none=>simp[hi,hu] at h
  |some d =>
   cases hz0:i.zero with
   |none=>cases d <;> simp[hi,hu,hz0] at h
   |some z =>
    have hpl:z.cells.all aR=true:=hz z (by simp[zeroOf,hi,hz0])
    cases d <;> try (simp[hi,hu] at h;done)
    case array n e =>
     cases he:P.info? e with
     |none=>simp[hi,hu,hz0,he] at h
     |some ie =>
      simp only[hi,hu,hz0,he] at h ⊢;exact pb ps hp _ _ _ (bB.aU hpl) h
    case struct fs =>
     simp only[hi,hu,hz0] at h ⊢
     cases h2:fs.toList.mapM (λf=>(P.info? f.type).map λi=>(f.offset,i.size)) with
     |none=>simp[h2] at h
     |some places =>
      rw[h2] at h;exact pb ps hp _ _ _ (bB.aU hpl) h
def bnd(x:Value)(y:Nat):Option Nat :=
 match x with
 |.int _ i=>if 0<=i/\i<=(y:Int) then some i.toNat else none
 |_=>none
def il(len cap:Nat)(lo hi mx:Option Value):Option (Nat×Nat×Nat) :=
 match (match mx with|some v=>bnd v cap|none=>some cap) with
 |none=>none
 |some m =>
  match (match hi,mx with|some v,_=>bnd v m|none,none=>some len|none,some _=>none) with
  |none=>none
  |some h =>
   match (match lo with|some v=>bnd v h|none=>some 0) with
   |none=>none
   |some l=>some (l,h,m)
theorem kO{P:Program}{x:Value}{y n:Nat}(c:BoundsCode)(h:bnd x y=some n)(w:World):(R3 x y c).run P w=.ok n w:=by
 cases x with
 |int k i =>
  simp only[bnd] at h;split at h
  .rename_i hc
   cases h
   simp[R3,asIntOf,hc]
  .cases h
 |_=>simp[bnd] at h
theorem sJ{x:Value}{y n:Nat}(h:bnd x y=some n):n<=y:=by
 cases x with
 |int k i =>
  simp only[bnd] at h;split at h
  .cases h;omega
  .cases h
 |_=>simp[bnd] at h
theorem As{x:Value}{y y' n:Nat}(h:bnd x y=some n)(hy:y<=y'):bnd x y'=some n:=by
 cases x with
 |int k i =>
  simp only[bnd] at h ⊢;split at h
  .rename_i hc;rw[if_pos (by omega)];exact h
  .cases h
 |_=>simp[bnd] at h
theorem kj{P:Program}{len cap:Nat}{lo hi mx:Option Value}{r:Nat×Nat×Nat}(b:Bool)(h:il len cap lo hi mx=some r)(w:World) :
  (RV b len cap lo hi mx).run P w=.ok r w:=by
 unfold il at h;unfold RV
 cases mx with
 |none =>
  simp only at h
  cases hi with
  |none =>
   simp only at h
   cases lo with
   |none=>simp at h;subst h;simp
   |some v =>
    simp only at h
    cases e:bnd v len with
    |none=>simp[e] at h
    |some l=>simp[e] at h;subst h;simp[kO _ e]
  |some u =>
   simp only at h
   cases e1:bnd u cap with
   |none=>simp[e1] at h
   |some hh =>
    simp only[e1] at h
    cases lo with
    |none=>simp at h;subst h;simp[kO _ e1]
    |some v =>
     simp only at h
     cases e:bnd v hh with
     |none=>simp[e] at h
     |some l=>simp[e] at h;subst h;simp[kO _ e1,kO _ e]
 |some q =>
  simp only at h
  cases e0:bnd q cap with
  |none=>simp[e0] at h
  |some m =>
   simp only[e0] at h
   cases hi with
   |none=>simp at h
   |some u =>
    simp only at h
    cases e1:bnd u m with
    |none=>simp[e1] at h
    |some hh =>
     simp only[e1] at h
     cases lo with
     |none=>simp at h;subst h;simp[kO _ e0,kO _ e1]
     |some v =>
      simp only at h
      cases e:bnd v hh with
      |none=>simp[e] at h
      |some l=>simp[e] at h;subst h;simp[kO _ e0,kO _ e1,kO _ e]
theorem rJ{len cap:Nat}{lo hi mx:Option Value}{l h m:Nat}(hl:len<=cap)(e:il len cap lo hi mx=some (l,h,m)):l<=h/\h<=m/\m<=cap:=by
 unfold il at e
 cases mx with
 |none =>
  simp only at e
  cases hi with
  |none =>
   simp only at e
   cases lo with
   |none=>simp at e;omega
   |some v =>
    simp only at e
    cases q:bnd v len with
    |none=>simp[q] at e
    |some l'=>simp[q] at e;have:=sJ q;omega
  |some u =>
   simp only at e
   cases q1:bnd u cap with
   |none=>simp[q1] at e
   |some hh =>
    have:=sJ q1;simp only[q1] at e
    cases lo with
    |none=>simp at e;omega
    |some v =>
     simp only at e
     cases q:bnd v hh with
     |none=>simp[q] at e
     |some l'=>simp[q] at e;have:=sJ q;omega
 |some qv =>
  simp only at e
  cases q0:bnd qv cap with
  |none=>simp[q0] at e
  |some m' =>
   have h0:=sJ q0;simp only[q0] at e
   cases hi with
   |none=>simp at e
   |some u =>
    simp only at e
    cases q1:bnd u m' with
    |none=>simp[q1] at e
    |some hh =>
     have h1:=sJ q1;simp only[q1] at e
     cases lo with
     |none=>simp at e;omega
     |some v =>
      simp only at e
      cases q:bnd v hh with
      |none=>simp[q] at e
      |some l'=>simp[q] at e;have:=sJ q;omega
theorem AT{len cap cap':Nat}{lo hi:Option Value}{l h m:Nat}(hc:cap<=cap')(e:il len cap lo hi none=some (l,h,m)):m=cap/\il len cap' lo hi none=some (l,h,cap'):=by
 unfold il at e ⊢;simp only at e ⊢
 cases hi with
 |none =>
  simp only at e ⊢
  cases lo with
  |none=>simp at e;simp;omega
  |some v =>
   simp only at e ⊢
   cases q:bnd v len with
   |none=>simp[q] at e
   |some l'=>simp[q] at e;simp;omega
 |some u =>
  simp only at e ⊢
  cases q1:bnd u cap with
  |none=>simp[q1] at e
  |some hh =>
   simp only[q1] at e;simp only[As q1 hc]
   cases lo with
   |none=>simp at e;simp;omega
   |some v =>
    simp only at e ⊢
    cases q:bnd v hh with
    |none=>simp[q] at e
    |some l'=>simp[q] at e;simp;omega
theorem sm{len cap cap':Nat}{lo hi:Option Value}{mx:Value}{r:Nat×Nat×Nat}(hc:cap<=cap')(e:il len cap lo hi (some mx)=some r):il len cap' lo hi (some mx)=some r:=by
 unfold il at e ⊢;simp only at e ⊢
 cases q:bnd mx cap with
 |none=>simp[q] at e
 |some m=>simp only[q] at e;simp only[As q hc];exact e
theorem xt{ι:Inj}{ρ ρ':Operand->Value}{x:Option Operand}(h:∀o,x=some o->VRel ι (ρ o) (ρ' o))(hp:∀o,x=some o->aR (ρ o)=true):x.map ρ'=x.map ρ:=by
 cases x with
 |none=>rfl
 |some o=>simp[(h o rfl).bZ (hp o rfl)]
theorem ET{len cap:Nat}{lo hi mx:Option Value}{r:Nat×Nat×Nat}(e:il len cap lo hi mx=some r) :
  (∀v,lo=some v->aR v=true)/\(∀v,hi=some v->aR v=true)/\(∀v,mx=some v->aR v=true):=by
 have key:∀v y n,bnd v y=some n->aR v=true:=by
  intro v y n h
  cases v <;> simp_all [bnd,aR]
 unfold il at e;refine⟨λv hv=>?_,λv hv=>?_,λv hv=>?_⟩
 .subst hv;simp only at e;split at e
  .cases e
  .split at e
   .cases e
   .split at e
    .cases e
    .rename_i q;exact key _ _ _ q
 .subst hv;simp only at e;split at e
  .cases e
  .split at e
   .cases e
   .rename_i q;exact key _ _ _ q
 .subst hv;simp only at e;split at e
  .cases e
  .rename_i q;exact key _ _ _ q
def bx(P:Program)(ρ:Operand->Value)(o:Oper):Option Value :=
 if o.op.operands.all (λx=>plain (ρ x)) then
  match cq P (execOp ρ o) with
  |some (.value v)=>if plain v then some v else none
  |_=>none
 else none
def nT:TypeDesc->Value->Value->Option Bool
 |.slice _,.slice none _ _,.slice none _ _=>some true
 |.pointer _,.pointer none,.pointer none=>some true
 |.slice _,.slice (some _) _ _,.slice none _ _=>some false
 |.slice _,.slice none _ _,.slice (some _) _ _=>some false
 |.pointer _,.pointer (some _),.pointer none=>some false
 |.pointer _,.pointer none,.pointer (some _)=>some false
 |.func ..,.func ..,.nilFunc=>some false
 |.func ..,.nilFunc,.func .. => some false
 |.map ..,.map (some _),.map none=>some false
 |.map ..,.map none,.map (some _)=>some false
 |.slice _,.iface _ (.tuple ⟨_::_⟩),.slice none _ _=>some false
 |.slice _,.iface _ (.bool _),.slice none _ _=>some false
 |.slice _,.iface _ (.iface 0 (.tuple ⟨[]⟩)),.slice none _ _=>some true
 |.slice _,.iface _ (.iface _ (.tuple ⟨_::_⟩)),.slice none _ _=>some false
 |.pointer _,.iface _ (.agg ⟨[_]⟩),.pointer none=>some false
 |_,_,_=>none
def ltI(a b:Int):Bool :=
 match a,b with
 |.ofNat m,.ofNat n=>NK (m+1) n
 |.negSucc _,.ofNat _=>true
 |.ofNat _,.negSucc _=>false
 |.negSucc m,.negSucc n=>NK (n+1) m
theorem fG(a b:Int):ltI a b=decide (a<b):=by
 have hb:∀m n:Nat,NK (m+1) n=decide (m<n):=by
  intro m n;by_cases h:m<n
  .simp[h,Nat.ble_eq];omega
  .simp only[h,decide_false,<- Bool.not_eq_true,Nat.ble_eq];omega
 cases a with
 |ofNat m=>cases b with
  |ofNat n=>simp only[ltI,hb];simp
  |negSucc n=>simp only[ltI];symm;simp;omega
 |negSucc m=>cases b with
  |ofNat n=>simp only[ltI];symm;simp;omega
  |negSucc n =>
   simp only[ltI,hb];by_cases h:n<m
   .simp[h];omega
   .simp[h];omega
def fF(op:BinOp)(k:IntKind)(a b:Int):Option Value :=
 match op with
 |.add=>some (.int k (k.wrap (a+b)))
 |.sub=>some (.int k (k.wrap (a-b)))
 |.mul=>some (.int k (k.wrap (a*b)))
 |.eql=>some (.bool (a==b))
 |.neq=>some (.bool (a != b))
 |.lss=>some (.bool (ltI a b))
 |.leq=>some (.bool (!ltI b a))
 |.gtr=>some (.bool (ltI b a))
 |.geq=>some (.bool (!ltI a b))
 |_=>none
def quick(d:Option TypeDesc)(op:BinOp)(x y:Value):Option Value :=
 match x,y with
 |.int k a,.int k' b=>if k=k' then fF op k a b else none
 |.bool a,.bool b =>
  match op,d with
  |.eql,some .bool=>some (.bool (a==b))
  |.neq,some .bool=>some (.bool (!(a==b)))
  |_,_=>none
 |_,_=>none
def nW(P:Program)(t:TypeId)(x y:Value):Option Bool :=
 match x,y with
 |.agg xs,.agg ys=>if plain (.agg xs)&&plain (.agg ys) && !P.eqGuardType P.depth t then eqV P 64 t (.agg xs) (.agg ys) else none
 |_,_=>none
def aC(P:Program)(ρ:Operand->Value)(o:Oper):Option Value :=
 match o.op with
 |.move x | .assign x=>some (ρ x)
 |.pick c a b =>
  match ρ c with
  |.bool t=>some (match t with|true=>ρ a|false=>ρ b)
  |_=>none
 |.nilCheck x =>
  match ρ x with
  |.pointer (some a)=>some (.pointer (some a))
  |.func (.func f) a b=>some (.func (.func f) a b)
  |.iface i (.agg ⟨[v]⟩)=>some (.iface i (.agg ⟨[v]⟩))
  |_=>none
 |.makeFunc fn first captured=>some (.func fn (first.map ρ) (captured.map ρ))
 |.extract t i =>
  match ρ t with
  |.tuple vs=>vs[i]?
  |_=>none
 |.field t x i =>
  match P.underlying t,ρ x with
  |some (.struct fs),.agg cs =>
   match fs[i]? with
   |some f=>partOf P f.type cs f.offset
   |none=>none
  |_,_=>none
 |.fieldAddr t x i =>
  match P.underlying t,ρ x with
  |some (.struct fs),.pointer (some ⟨g,off,none⟩) =>
   match fs[i]? with
   |some f =>
    match bb P f.type with
    |some (_+1)=>some (.pointer (some ⟨g,off+f.offset,none⟩))
    |_=>none
   |none=>none
  |some (.struct fs),.iface _ (.agg ⟨[.agg cs]⟩) =>
   match fs[i]? with
   |some f =>
    match bb P f.type with
    |some (_+1)=>wG P f.type cs f.offset
    |_=>none
   |none=>none
  |_,_=>none
 |.index t x i =>
  match P.underlying t,ρ x,ρ i with
  |some (.array n e),.agg cs,.int _ k =>
   match bb P e with
   |some s=>if 0<=k/\k<(n:Int) then partOf P e cs (k.toNat*s) else none
   |none=>none
  |some .string,_,_=>bx P ρ o
  |_,_,_=>none
 |.indexAddr t x i =>
  match P.underlying t,ρ x,ρ i with
  |some (.array n e),.pointer (some ⟨g,off,none⟩),.int _ k =>
   match bb P e with
   |some s=>if 0<=k/\k<(n:Int) then some (.pointer (some ⟨g,off+k.toNat*s,none⟩)) else none
   |none=>none
  |some (.slice e),.slice (some ⟨g,off,_⟩) len _,.int _ k =>
   match bb P e with
   |some s=>if 0<=k/\k<(len:Int) then some (.pointer (some ⟨g,off+k.toNat*s,none⟩)) else none
   |none=>none
  |some (.slice e),.iface s' (.tuple ⟨es⟩),.int _ (.ofNat k) =>
   match bb P e with
   |some s=>match NZ s s' with
    |true=>match es[k]? with
     |some u=>some (FP u)
     |none=>none
    |false=>none
   |none=>none
  |some (.slice e),.iface s' (.iface _ (.tuple ⟨es⟩)),.int _ (.ofNat k) =>
   match bb P e with
   |some s=>match NZ s s' with
    |true=>match es[k]? with
     |some u=>some (FP u)
     |none=>none
    |false=>none
   |none=>none
  |some (.array n e),.iface _ (.agg ⟨[.agg cs]⟩),.int _ (.ofNat k) =>
   match bb P e with
   |some s=>match NK (k+1) n with
    |true=>wG P e cs (k*s)
    |false=>none
   |none=>none
  |_,_,_=>none
 |.slice t x lo hi mx =>
  match P.underlying t,ρ x with
  |some (.slice e),.slice a len cap =>
   match bb P e,il len cap (lo.map ρ) (hi.map ρ) (mx.map ρ) with
   |some s,some (l,h,m) =>
    match a with
    |none=>some (.slice none (h-l) (m-l))
    |some ⟨g,off,none⟩=>some (.slice (some ⟨g,off+l*s,none⟩) (h-l) (m-l))
    |some ⟨g,off,some z⟩ =>
     match mx with
     |none=>if z=s then some (.slice (some ⟨g,off+l*s,some z⟩) (h-l) (m-l)) else none
     |some _=>some (.slice (some ⟨g,off+l*s,none⟩) (h-l) (m-l))
   |_,_=>none
  |some (.array n e),.pointer (some ⟨g,off,none⟩) =>
   match bb P e,il n n (lo.map ρ) (hi.map ρ) (mx.map ρ) with
   |some s,some (l,h,m)=>some (.slice (some ⟨g,off+l*s,none⟩) (h-l) (m-l))
   |_,_=>none
  |some (.slice e),.iface s' (.tuple ⟨es⟩) =>
   match bb P e,il es.length es.length (lo.map ρ) (hi.map ρ) (mx.map ρ) with
   |some s,some (l,h,m) =>
    match NZ s s' with
    |true=>match mx with
     |none=>some (FL s ((es.drop l).take (h-l)))
     |some _=>match NZ l m,es with
      |true,_::_=>some FE
      |_,_=>some (FL s ((es.drop l).take (h-l)))
    |false=>none
   |_,_=>none
  |some .string,_=>bx P ρ o
  |_,_=>none
 |.build t ps =>
  match zeroOf P t with
  |some z=>if z.cells.all aR then (P.built t (ps.toList.map λp=>(p.1,ρ p.2))).map .agg else none
  |none=>none
 |.binOp op t x y _ =>
  match quick (P.underlying t) op (ρ x) (ρ y) with
  |some v=>some v
  |none =>
  match op,P.underlying t with
  |.eql,some d=>match nT d (ρ x) (ρ y) with
   |some b=>some (.bool b)
   |none=>match nW P t (ρ x) (ρ y) with
    |some b=>some (.bool b)
    |none=>bx P ρ o
  |.neq,some d=>match nT d (ρ x) (ρ y) with
   |some b=>some (.bool !b)
   |none=>match nW P t (ρ x) (ρ y) with
    |some b=>some (.bool !b)
    |none=>bx P ρ o
  |_,_=>bx P ρ o
 |.unOp op _ x =>
  match op,ρ x with
  |.not,.bool b=>some (.bool !b)
  |_,_=>bx P ρ o
 |.convert .. => bx P ρ o
 |.call { callee:=.builtin b,argTypes,args } =>
  match b with
  |.len =>
   match (argTypes[0]?).bind P.underlying,args.toList.map ρ with
   |some (.slice _),[.slice _ n _]=>some (goInt n)
   |some (.slice _),[.iface _ (.tuple ⟨es⟩)]=>some (goInt es.length)
   |some (.slice _),[.iface _ (.bool _)]=>some (goInt 0)
   |some (.slice _),[.iface _ (.iface _ (.tuple ⟨es⟩))]=>some (goInt es.length)
   |some .string,_=>bx P ρ o
   |some (.array n _),[_]=>some (goInt n)
   |_,_=>none
  |.cap =>
   match (argTypes[0]?).bind P.underlying,args.toList.map ρ with
   |some (.slice _),[.slice none _ c]=>some (goInt c)
   |some (.slice _),[.slice (some ⟨_,_,none⟩) _ c]=>some (goInt c)
   |some (.slice _),[.iface _ (.iface 1 (.tuple ⟨es⟩))]=>some (goInt es.length)
   |some (.slice _),[.iface _ (.bool _)]=>some (goInt 0)
   |_,_=>none
  |.min =>
   match args.toList.map ρ with
   |[.int k a,.int k' b]=>if k=k' then some (.int k (match ltI b a with|true=>b|false=>a)) else none
   |_=>bx P ρ o
  |.max =>
   match args.toList.map ρ with
   |[.int k a,.int k' b]=>if k=k' then some (.int k (match ltI a b with|true=>b|false=>a)) else none
   |_=>bx P ρ o
  |_=>none
 |_=>none
end Go.Abs
