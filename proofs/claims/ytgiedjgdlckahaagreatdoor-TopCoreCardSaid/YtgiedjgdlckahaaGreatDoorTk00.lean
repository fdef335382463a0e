/-
  AbsA: parts of the proof.
-/
import Derived.Calls
import Derived.Orders
import Derived.LoopN
import Derived.Laws.Cells
import Derived.Laws.CopyRow
namespace Go.Abs
theorem lbE{n m:Nat}(h:Nat.ble n m=true):n≤m:=Nat.le_of_ble_eq_true h
inductive Tr (α:Type) where
 |nil
 |node (l:Tr α) (v:Option α) (r:Tr α)
def Tr.get {α:Type}:Tr α->Nat->Option α
 |.nil,_=>none
 |.node l v r,n=>if n=0 then v else if n%2=1 then l.get (n/2) else r.get (n/2-1)
def Tr.uj {α:Type}:Nat->Tr α->Nat->α->Tr α
 |0,t,_,_=>t
 |f+1,.nil,n,x =>
  if n=0 then .node .nil (some x) .nil
  else if n%2=1 then .node (Tr.uj f .nil (n/2) x) none .nil else .node .nil none (Tr.uj f .nil (n/2-1) x)
 |f+1,.node l v r,n,x =>
  if n=0 then .node l (some x) r
  else if n%2=1 then .node (Tr.uj f l (n/2) x) v r else .node l v (Tr.uj f r (n/2-1) x)
def Tr.set {α:Type} (t:Tr α) (n:Nat) (x:α):Tr α:=Tr.uj (n+1) t n x
theorem Tr.mK {α:Type}:∀ (f:Nat) (t:Tr α) (n:Nat) (x:α) (m:Nat),n<f->(Tr.uj f t n x).get m=if m=n then some x else t.get m
 |0,_,_,_,_,h=>by omega
 |f+1,.nil,n,x,m,h=>by
  unfold Tr.uj;by_cases hn:n=0
  ·subst hn;by_cases hm:m=0
   ·simp[Tr.get,hm]
   ·simp[Tr.get,hm]
  ·simp only[hn,if_false];by_cases ho:n%2=1
   ·simp only[ho,if_true];unfold Tr.get;by_cases hm:m=0
    ·have:¬ m=n:=by omega
     simp[hm];omega
    ·simp only[hm,if_false];by_cases hmo:m%2=1
     ·simp only[hmo,if_true];rw[Tr.mK f .nil (n/2) x (m/2) (by omega)];by_cases e:m=n
      ·subst e;simp
      ·have:¬ m/2=n/2:=by omega
       simp[e,this,Tr.get]
     ·have e:¬ m=n:=by intro e;subst e;exact hmo ho
      simp[hmo,e,Tr.get]
   ·simp only[ho,if_false];unfold Tr.get;by_cases hm:m=0
    ·simp[hm];omega
    ·simp only[hm,if_false];by_cases hmo:m%2=1
     ·have e:¬ m=n:=by intro e;subst e;exact ho hmo
      simp[hmo,e,Tr.get]
     ·simp only[hmo,if_false];rw[Tr.mK f .nil (n/2-1) x (m/2-1) (by omega)];by_cases e:m=n
      ·subst e;simp
      ·have:¬ m/2-1=n/2-1:=by omega
       simp[e,this,Tr.get]
 |f+1,.node l v r,n,x,m,h=>by
  unfold Tr.uj;by_cases hn:n=0
  ·subst hn;by_cases hm:m=0
   ·simp[Tr.get,hm]
   ·simp[Tr.get,hm]
  ·simp only[hn,if_false];by_cases ho:n%2=1
   ·simp only[ho,if_true];unfold Tr.get;by_cases hm:m=0
    ·have:¬ 0=n:=by omega
     simp[hm,this]
    ·simp only[hm,if_false];by_cases hmo:m%2=1
     ·simp only[hmo,if_true];rw[Tr.mK f l (n/2) x (m/2) (by omega)];by_cases e:m=n
      ·subst e;simp
      ·have:¬ m/2=n/2:=by omega
       simp[e,this]
     ·have e:¬ m=n:=by intro e;subst e;exact hmo ho
      simp[hmo,e]
   ·simp only[ho,if_false];unfold Tr.get;by_cases hm:m=0
    ·have:¬ 0=n:=by omega
     simp[hm,this]
    ·simp only[hm,if_false];by_cases hmo:m%2=1
     ·have e:¬ m=n:=by intro e;subst e;exact ho hmo
      simp[hmo,e]
     ·simp only[hmo,if_false];rw[Tr.mK f r (n/2-1) x (m/2-1) (by omega)];by_cases e:m=n
      ·subst e;simp
      ·have:¬ m/2-1=n/2-1:=by omega
       simp[e,this]
theorem Tr.dq {α:Type} (t:Tr α) (n:Nat) (x:α) (m:Nat):(t.set n x).get m=if m=n then some x else t.get m :=
 Tr.mK (n+1) t n x m (Nat.lt_succ_self n)
structure Env where
 n:Nat
 t:Tr Value
 base:Nat->Value
def Env.get (e:Env) (i:Nat):Value :=
 match e.t.get i with
 |some v=>v
 |none=>e.base i
def Env.set (e:Env) (i:Nat) (v:Value):Env:={ n:=e.n,t:=e.t.set i v,base:=e.base }
def Env.put (e:Env) (d:Option Tmp) (v:Value):Env :=
 match d with
 |some i=>e.set i v
 |none=>e
theorem Env.dq (e:Env) (i:Nat) (v:Value) (j:Nat):(e.set i v).get j=if j=i then v else e.get j:=by
 unfold Env.get Env.set;simp only[Tr.dq];by_cases c:j=i
 ·simp[c]
 ·simp[c]
inductive AObj where
 |cells (cs:List Value) (ro:Bool)
 |map (es:List (Value×Value))
 |iter (s:ByteArray) (pos:Nat)
  |rng (g:Nat) (seen:List Nat) (n:Nat)
 |dead
structure Heap where
 size:Nat
 t:Tr AObj
 low:Nat
def Heap.get (h:Heap) (g:Nat):Option AObj:=if g<h.size then h.t.get g else none
def Heap.push (h:Heap) (o:AObj):Heap :=
 match h with
 |⟨n,t,l⟩=>⟨n+1,t.set n o,l⟩
def Heap.upd (h:Heap) (g:Nat) (o:AObj):Heap :=
 match h with
 |⟨n,t,l⟩=>⟨n,t.set g o,min l g⟩
theorem Heap.Gj (h:Heap) (o:AObj):h.push o={ size:=h.size+1,t:=h.t.set h.size o,low:=h.low }:=rfl
theorem Heap.Cr (h:Heap) (g:Nat) (o:AObj):h.upd g o={ size:=h.size,t:=h.t.set g o,low:=min h.low g }:=rfl
theorem Heap.bc (h:Heap) (o:AObj) (g:Nat):(h.push o).get g=if g=h.size then some o else h.get g:=by
 rw[Heap.Gj];unfold Heap.get;simp only[Tr.dq];by_cases e:g=h.size
 ·simp[e]
 ·by_cases l:g<h.size
  ·have:g<h.size+1:=by omega
   simp[e,l,this]
  ·have:¬ g<h.size+1:=by omega
   simp[e,l,this]
theorem Heap.bF (h:Heap) (g:Nat) (o:AObj) (k:Nat) (hg:g<h.size):(h.upd g o).get k=if k=g then some o else h.get k:=by
 rw[Heap.Cr];unfold Heap.get;simp only[Tr.dq];by_cases e:k=g
 ·simp[e,hg]
 ·simp[e]
theorem Heap.ag {h:Heap}{g:Nat}{o:AObj} (e:h.get g=some o):g<h.size:=by
 unfold Heap.get at e;by_cases l:g<h.size
 ·exact l
 ·simp[l] at e
def AObj.mut:AObj->Bool
 |.cells _ ro => !ro
 |.map _=>true
 |.iter _ _=>true
 |.rng .. => true
 |.dead=>false
def AObj.live:AObj->Bool
 |.dead=>false
 |_=>true
def Heap.mut (h:Heap) (g:Nat):Prop:=∃ o,h.get g=some o/\o.mut=true
def Heap.live (h:Heap) (g:Nat):Prop:=∃ o,h.get g=some o/\o.live=true
theorem Heap.mut.live {h:Heap}{g:Nat} (m:h.mut g):h.live g:=by
 obtain⟨o,h1,h2⟩:=m;exact⟨o,h1,by cases o <;> simp_all [AObj.mut,AObj.live]⟩
structure Loc where
 blk:Nat
 base:Nat
 tot:Nat
structure Inj where
 at_:Nat->Option Loc
 fz:Nat->Option (Array Value)
instance:CoeFun Inj (fun _=>Nat->Option Loc):=⟨Inj.at_⟩
structure Inj.Le (ι ι':Inj):Prop where
 at_:∀ g l,ι g=some l->ι' g=some l
 fz:∀ b C,ι.fz b=some C->ι'.fz b=some C
theorem Inj.Le.refl (ι:Inj):Inj.Le ι ι:=⟨fun _ _ e=>e,fun _ _ e=>e⟩
theorem Inj.Le.trans {ι ι' ι'':Inj} (a:Inj.Le ι ι') (b:Inj.Le ι' ι''):Inj.Le ι ι'':=⟨fun g l e=>b.at_ g l (a.at_ g l e),fun g l e=>b.fz g l (a.fz g l e)⟩
def cl (v:Value):List Value:=v.cells.toList
def flatC (l:List Value):List Value:=l.flatMap cl
def FL (s:Nat) (es:List Value):Value:=.iface s (.tuple ⟨es⟩)
def FP (v:Value):Value:=.iface 0 (.agg #[v])
def FN (s:Nat) (es:List Value):Value:=.iface s (.iface 0 (.tuple ⟨es⟩))
def FC (s:Nat) (es:List Value):Value:=.iface s (.iface 1 (.tuple ⟨es⟩))
def FE:Value:=.iface 0 (.bool false)
inductive VRel (ι:Inj):Value->Value->Prop
 |bool (b:Bool):VRel ι (.bool b) (.bool b)
 |int (k:IntKind) (n:Int):VRel ι (.int k n) (.int k n)
 |str (s:ByteArray):VRel ι (.string s) (.string s)
 |ptrNil:VRel ι (.pointer none) (.pointer none)
 |ptr (g off:Nat) (l:Loc):ι g=some l->VRel ι (.pointer (some ⟨g,off,none⟩)) (.pointer (some ⟨l.blk,l.base+off,none⟩))
 |sliceNil:VRel ι (.slice none 0 0) (.slice none 0 0)
 |slice (g off len cap o:Nat) (l:Loc):ι g=some l->len<=cap->(cap≠0->o=l.base+off) ->
  VRel ι (.slice (some ⟨g,off,none⟩) len cap) (.slice (some ⟨l.blk,o,none⟩) len cap)
 |sliceOpen (g off s len cap cap' o:Nat) (l:Loc):ι g=some l->len<=cap->cap<=cap'->(cap≠0->o=l.base+off)->o+cap'*s<=l.tot ->
  VRel ι (.slice (some ⟨g,off,some s⟩) len cap) (.slice (some ⟨l.blk,o,none⟩) len cap')
 |mapNil:VRel ι (.map none) (.map none)
 |map (g:Nat) (l:Loc):ι g=some l->VRel ι (.map (some g)) (.map (some l.blk))
 |func (f:Fn) (a b a' b':Array Value):a.size=a'.size->b.size=b'.size->(∀ i:Nat,VRel ι (a.getD i undef) (a'.getD i undef)) ->
  (∀ i:Nat,VRel ι (b.getD i undef) (b'.getD i undef))->VRel ι (.func f a b) (.func f a' b')
 |nilFunc:VRel ι .nilFunc .nilFunc
 |nilIface:VRel ι .nilIface .nilIface
 |flNil (s:Nat):VRel ι (.iface s (.tuple ⟨[]⟩)) (.slice none 0 0)
 |flEmpty (s:Nat) (a:Addr) (cap:Nat):VRel ι (.iface s (.tuple ⟨[]⟩)) (.slice (some a) 0 cap)
 |fl (s:Nat) (es:List Value) (b o cap:Nat) (C:Array Value):ι.fz b=some C->es≠[]->es.length<=cap->(∀ e∈es,(cl e).length=s)->o+es.length*s<=C.size ->
  (∀ i,i<es.length*s->VRel ι ((flatC es).getD i undef) (C.getD (o+i) undef))->VRel ι (.iface s (.tuple ⟨es⟩)) (.slice (some ⟨b,o,none⟩) es.length cap)
 |fnNil (s:Nat):VRel ι (.iface s (.iface 0 (.tuple ⟨[]⟩))) (.slice none 0 0)
 |fn (s:Nat) (es:List Value) (b o cap:Nat):es≠[]->VRel ι (.iface s (.tuple ⟨es⟩)) (.slice (some ⟨b,o,none⟩) es.length cap)->VRel ι (.iface s (.iface 0 (.tuple ⟨es⟩))) (.slice (some ⟨b,o,none⟩) es.length cap)
 |fcNil (s:Nat):VRel ι (.iface s (.iface 1 (.tuple ⟨[]⟩))) (.slice none 0 0)
 |fcEmpty (s:Nat) (a:Addr):VRel ι (.iface s (.iface 1 (.tuple ⟨[]⟩))) (.slice (some a) 0 0)
 |fc (s:Nat) (es:List Value) (b o:Nat):es≠[]->VRel ι (.iface s (.tuple ⟨es⟩)) (.slice (some ⟨b,o,none⟩) es.length es.length)->VRel ι (.iface s (.iface 1 (.tuple ⟨es⟩))) (.slice (some ⟨b,o,none⟩) es.length es.length)
 |fp (v:Value) (b o:Nat) (C:Array Value):ι.fz b=some C->o+(cl v).length<=C.size->(∀ i,i<(cl v).length->VRel ι ((cl v).getD i undef) (C.getD (o+i) undef)) ->
  VRel ι (.iface 0 (.agg #[v])) (.pointer (some ⟨b,o,none⟩))
 |fe (a:Addr):VRel ι (.iface 0 (.bool false)) (.slice (some a) 0 0)
 |agg (a a':Array Value):a.size=a'.size->(∀ i:Nat,VRel ι (a.getD i undef) (a'.getD i undef))->VRel ι (.agg a) (.agg a')
 |unit:VRel ι (.tuple #[]) (.tuple #[])
 |tuple (a a':Array Value):a.size=a'.size->(∀ i:Nat,VRel ι (a.getD i undef) (a'.getD i undef))->VRel ι (.tuple a) (.tuple a')
theorem VRel.nothing (ι:Inj):VRel ι Go.undef Go.undef:=.unit
theorem VRel.mono {ι ι':Inj} (h:Inj.Le ι ι') {v v':Value} (r:VRel ι v v'):VRel ι' v v':=by
 induction r with
 |bool b=>exact .bool b
 |int k n=>exact .int k n
 |str s=>exact .str s
 |ptrNil=>exact .ptrNil
 |ptr g off l hl=>exact .ptr g off l (h.at_ _ _ hl)
 |sliceNil=>exact .sliceNil
 |slice g off len cap o l hl h1 h2=>exact .slice g off len cap o l (h.at_ _ _ hl) h1 h2
 |sliceOpen g off s len cap cap' o l hl h1 h2 h3 h4=>exact .sliceOpen g off s len cap cap' o l (h.at_ _ _ hl) h1 h2 h3 h4
 |mapNil=>exact .mapNil
 |map g l hl=>exact .map g l (h.at_ _ _ hl)
 |fnNil s=>exact .fnNil s
 |fn s es b o cap hne _ ih=>exact .fn s es b o cap hne ih
 |flNil s=>exact .flNil s
 |flEmpty s a cap=>exact .flEmpty s a cap
 |fcNil s=>exact .fcNil s
 |fcEmpty s a=>exact .fcEmpty s a
 |fc s es b o hne _ ih=>exact .fc s es b o hne ih
 |fl s es b o cap C h0 h1 h2 h3 h4 _ ih=>exact .fl s es b o cap C (h.fz _ _ h0) h1 h2 h3 h4 ih
 |fp v b o C h0 h1 _ ih=>exact .fp v b o C (h.fz _ _ h0) h1 ih
 |fe a=>exact .fe a
 |func f a b a' b' h1 h2 _ _ i1 i2=>exact .func f a b a' b' h1 h2 i1 i2
 |nilFunc=>exact .nilFunc
 |nilIface=>exact .nilIface
 |agg a a' h1 _ i1=>exact .agg a a' h1 i1
 |unit=>exact .unit
 |tuple a a' h1 _ i1=>exact .tuple a a' h1 i1
theorem VRel.BU {ι:Inj}{v v':Value} (r:VRel ι v v'):v'.oneCell'=v.oneCell':=by
 cases r <;> rfl
def ORel (ι:Inj) (l:Loc):AObj->Option Obj->Prop
 |.cells cs ro,x=>∃ C ty fr,x=some (.cells C ty fr)/\(ro=false->fr=(0,0))/\C.size=l.tot/\l.base+cs.length<=C.size /\
  ∀ (i:Nat) (v:Value),cs[i]?=some v->∃ v',C[l.base+i]?=some v'/\VRel ι v v'
 |.map es,x=>∃ (E:Array MapEntry) (c:Nat),x=some (.map E c)/\l.base=0/\E.size=es.length /\
  (∀ (i:Nat) (k v:Value),es[i]?=some (k,v)->∃ m:MapEntry,E[i]?=some m/\VRel ι k m.key/\VRel ι v m.val)/\c=E.size/\∀ (i:Nat) (m:MapEntry),E[i]?=some m->m.born=i
 |.iter s pos,x=>x=some (.stringIter s pos)/\l.base=0
 |.rng g seen n,x=>∃ lg,ι g=some lg/\x=some (.mapIter (some lg.blk) n ⟨seen⟩ n)/\l.base=0
 |.dead,_=>True
theorem ORel.mono {ι ι':Inj} (h:Inj.Le ι ι') {l:Loc}{o:AObj}{x:Option Obj} (r:ORel ι l o x):ORel ι' l o x:=by
 cases o with
 |cells cs ro =>
  obtain⟨C,ty,fr,h1,h2,h3,h4,h5⟩:=r;exact⟨C,ty,fr,h1,h2,h3,h4,fun i v e=>let ⟨v',e',r⟩:=h5 i v e;⟨v',e',r.mono h⟩⟩
 |map es =>
  obtain⟨E,c,h1,h2,h3,h4,h5⟩:=r;exact⟨E,c,h1,h2,h3,fun i k v e=>let ⟨m,e',r1,r2⟩:=h4 i k v e;⟨m,e',r1.mono h,r2.mono h⟩,h5⟩
 |iter s pos=>exact r
 |rng g seen n =>
  obtain⟨lg,h1,h2⟩:=r;exact⟨lg,h.at_ _ _ h1,h2⟩
 |dead=>trivial
structure HRel (N:Nat) (ι:Inj) (h:Heap) (w:World):Prop where
 dom:∀ g l,ι g=some l->g<h.size
 blk:∀ g l,ι g=some l->l.blk<w.heap.size
 glob:∀ g,g<N->∃ l,ι g=some l/\l.blk=g/\l.base=0
 obj:∀ g l o,ι g=some l->h.get g=some o->ORel ι l o w.heap[l.blk]?
 apart:∀ g g' l l',ι g=some l->ι g'=some l'->g≠g'->h.mut g->h.live g'->l.blk≠l'.blk
 frz:∀ b C,ι.fz b=some C->∃ ty fr,w.heap[b]?=some (.cells C ty fr)
 fzap:∀ b C g l,ι.fz b=some C->ι g=some l->h.mut g->l.blk≠b
 rofz:∀ g l cs,ι g=some l->h.get g=some (.cells cs true)->∃ C,ι.fz l.blk=some C
structure Step (ι:Inj) (h:Heap) (w:World) (ι':Inj) (h':Heap) (w':World):Prop where
 dom:∀ g l,ι g=some l->g<h.size
 size:h.size<=h'.size
 ext:Inj.Le ι ι'
 fresh:∀ g l,ι' g=some l->ι g=none->h.size<=g
 own:∀ g l,ι' g=some l->ι g=none->w.heap.size<=l.blk\/∃ g0 l0,ι g0=some l0/\h.mut g0/\l0.blk=l.blk
 keep:∀ g,g<h.size->h'.mut g->h.mut g
 keepl:∀ g,g<h.size->h'.live g->h.live g
 wsize:w.heap.size<=w'.heap.size
 frame:∀ b,b<w.heap.size->(∀ g l,ι g=some l->h.mut g->l.blk≠b)->w'.heap[b]?=w.heap[b]?
 others:∀ g,g<h.size->ι g=none->h'.get g=h.get g
 out:w'.output=w.output/\w'.os=w.os/\w'.tape=w.tape/\w.drawn<=w'.drawn
 fzown:∀ b C,ι'.fz b=some C->ι.fz b=none->w.heap.size<=b\/∃ g0 l0,ι g0=some l0/\l0.blk=b
theorem Step.refl {ι:Inj}{h:Heap} (w:World) (dom:∀ g l,ι g=some l->g<h.size):Step ι h w ι h w where
 dom:=dom
 size:=Nat.le_refl _
 ext:=Inj.Le.refl ι
 fresh:=fun g l e e'=>by rw[e'] at e;cases e
 own:=fun g l e e'=>by rw[e'] at e;cases e
 keep:=fun _ _ m=>m
 keepl:=fun _ _ m=>m
 wsize:=Nat.le_refl _
 frame:=fun _ _ _=>rfl
 others:=fun _ _ _=>rfl
 out:=⟨rfl,rfl,rfl,Nat.le_refl _⟩
 fzown:=fun b C e e'=>by rw[e'] at e;cases e
theorem Step.Ab {ι ι₁:Inj}{h h₁:Heap}{w w₁:World} (s:Step ι h w ι₁ h₁ w₁) {g:Nat}{l:Loc} (e:ι₁ g=some l) (m:h₁.mut g) :
  w.heap.size<=l.blk\/∃ g0 l0,ι g0=some l0/\h.mut g0/\l0.blk=l.blk:=by
 cases e0:ι g with
 |none=>exact s.own g l e e0
 |some l0 =>
  have:=s.ext.at_ g l0 e0;rw[e] at this
  cases this
  exact .inr ⟨g,l,e0,s.keep g (s.dom g l e0) m,rfl⟩
theorem Step.trans {ι ι₁ ι₂:Inj}{h h₁ h₂:Heap}{w w₁ w₂:World} (s:Step ι h w ι₁ h₁ w₁) (t:Step ι₁ h₁ w₁ ι₂ h₂ w₂):Step ι h w ι₂ h₂ w₂ where
 dom:=s.dom
 size:=Nat.le_trans s.size t.size
 ext:=s.ext.trans t.ext
 fresh:=fun g l e e'=>by
  cases e1:ι₁ g with
  |none=>exact Nat.le_trans s.size (t.fresh g l e e1)
  |some l1=>exact s.fresh g l1 e1 e'
 own:=fun g l e e'=>by
  cases e1:ι₁ g with
  |none =>
   rcases t.own g l e e1 with h1|⟨g0,l0,h1,h2,h3⟩
   ·exact .inl (Nat.le_trans s.wsize h1)
   ·rcases s.Ab h1 h2 with h4|⟨g1,l1,h4,h5,h6⟩
    ·exact .inl (h3 ▸ h4)
    ·exact .inr ⟨g1,l1,h4,h5,h6.trans h3⟩
  |some l1 =>
   have:=t.ext.at_ g l1 e1;rw[e] at this
   cases this
   exact s.own g l e1 e'
 keep:=fun g hg m=>s.keep g hg (t.keep g (Nat.lt_of_lt_of_le hg s.size) m)
 keepl:=fun g hg m=>s.keepl g hg (t.keepl g (Nat.lt_of_lt_of_le hg s.size) m)
 wsize:=Nat.le_trans s.wsize t.wsize
 frame:=fun b hb hn=>by
  rw[t.frame b (Nat.lt_of_lt_of_le hb s.wsize) (fun g l e m=>?_),s.frame b hb hn]
  rcases s.Ab e m with h1|⟨g0,l0,h1,h2,h3⟩
  ·omega
  ·exact h3 ▸ hn g0 l0 h1 h2
 others:=fun g hg e=>by
  have e1:ι₁ g=none:=by
   cases q:ι₁ g with
   |none=>rfl
   |some l=>have:=s.fresh g l q e;omega
  rw[t.others g (Nat.lt_of_lt_of_le hg s.size) e1,s.others g hg e]
 out:=⟨t.out.1.trans s.out.1,t.out.2.1.trans s.out.2.1,t.out.2.2.1.trans s.out.2.2.1,Nat.le_trans s.out.2.2.2 t.out.2.2.2⟩
 fzown:=fun b C e e'=>by
  cases e1:ι₁.fz b with
  |some C1=>exact s.fzown b C1 e1 e'
  |none =>
   rcases t.fzown b C e e1 with h1|⟨g0,l0,h1,h2⟩
   ·exact .inl (Nat.le_trans s.wsize h1)
   ·cases e2:ι g0 with
    |some l1 =>
     have:=s.ext.at_ g0 l1 e2;rw[h1] at this
     cases this
     exact .inr ⟨g0,l0,e2,h2⟩
    |none =>
     rcases s.own g0 l0 h1 e2 with h3|⟨g1,l1,h3,_,h4⟩
     ·exact .inl (h2 ▸ h3)
     ·exact .inr ⟨g1,l1,h3,h4.trans h2⟩
end Go.Abs
