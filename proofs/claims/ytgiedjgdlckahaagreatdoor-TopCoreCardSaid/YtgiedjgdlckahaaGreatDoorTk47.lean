/-
  U2, Wp1, Wp2, Wp3, U3, U4, Wp4, Wp5, Wp6, Wp7, Tb8, Lh, Lm, Lg1, Gat, Lg2, Tb9, Lg3, Li: parts of the proof.
-/
import Derived.Test.YtgiedjgdlckahaaGreatDoorTk46
namespace Go.Proofs.YtgiedjgdlckahaaGreatDoor
open Go.Abs
set_option maxRecDepth 100000
theorem qx {c:Circ}{K:List Nat->Prop} (hc:c.nodes.length<2 ^ 40) (h:K (ofN c [0])):cS c K:=FQ hc (by decide) h
theorem rD {c:Circ}{K:List Nat->Prop} (hc:c.nodes.length<2 ^ 40) (h:K (ofN c [14])):cN c K:=FQ hc (by decide) h
theorem gI {c:Circ}{k f:Nat}:f∈ofN c [k]↔f<c.nodes.length/\kd c f=k:=by
 unfold ofN kd;rw[List.mem_filter,List.mem_range];simp only[List.contains_cons,List.contains_nil,Bool.or_false,beq_iff_eq]
theorem gT (c:Circ) (ks:List Nat):(ofN c ks).length<=c.nodes.length:=by
 unfold ofN;exact Nat.le_trans (List.length_filter_le _ _) (by simp)
theorem nK (c:Circ) (ks:List Nat):(ofN c ks).Nodup:=List.Pairwise.filter _ List.nodup_range
structure Cir (c:Circ):Prop where
 good:Good c
 mems:c.mems=[]
 kinds:∀ (i:Nat) (x:Node),c.nodes[i]?=some x->x.kind<=14
theorem Cir.len {c:Circ} (C:Cir c):c.nodes.length<=16:=C.good.len
theorem B5 {c:Circ}{o:List Nat} (h:OrdOk c o) {a b m:Nat} (h1:o[a]?=some m) (h2:o[b]?=some m):a=b:=by
 have hn:o.Nodup:=h.perm.nodup_iff.2 List.nodup_range;obtain⟨q1,q2⟩:=List.getElem?_eq_some_iff.1 h1;obtain⟨q3,q4⟩:=List.getElem?_eq_some_iff.1 h2
 rcases Nat.lt_trichotomy a b with q|q|q
 ·exact absurd (q2.trans q4.symm) (List.pairwise_iff_getElem.1 hn a b q1 q3 q)
 ·exact q
 ·exact absurd (q4.trans q2.symm) (List.pairwise_iff_getElem.1 hn b a q3 q1 q)
structure PatOk (c:Circ) (p:Pat):Prop where
 inp:p.inp.length=(ofN c [0]).length
 state:p.state.length=(ofN c [14]).length
 inpv:∀ v∈p.inp,v<=3
 statev:∀ v∈p.state,v<=3
theorem qp {l:List Nat}{K:Bool->Prop} (hl:l.length<2 ^ 60) (hv:∀ v∈l,v<=3) (h:K false):db l K:=by
 unfold db eQ;refine fT (l:=l) ?_ ?_ h
 ·intro k i nx x hx hi hn;have hv:=hv x (List.mem_of_getElem? hx);refine⟨fun _=>⟨x,hx,fun q=>?_,fun _=>⟨by omega,hn⟩⟩,fun q=>?_⟩
  ·have:=aO.1 q;omega
  ·have:=bk.1 q;omega
 ·intro k i nx hi hk;refine⟨fun q=>?_,fun _=>hk⟩;have:=aO.1 q;omega
theorem Cir.tr {c:Circ} (C:Cir c):ofN c [15]=[]:=by
 refine List.eq_nil_iff_forall_not_mem.2 fun i m=>?_;obtain⟨h1,h2⟩:=gI.1 m;obtain⟨y,hy⟩:=av h1;rw[ia hy] at h2;have:=C.kinds i y hy;omega
theorem HO {c:Circ} (C:Cir c) {pt:Pat} (hp:PatOk c pt) {K:Nat->Prop} (h:K 0):gE c pt K:=by
 have hlen:=C.len;have l1:=gT c [0];have l2:=gT c [14];have h1:=hp.inp;have h2:=hp.state;unfold gE;refine dM (a:=false) (fun F=>⟨fun q=>?_,fun _=>FQ (by omega) (by decide) ?_⟩) ⟨(fun e=>by cases e),fun _=>?_⟩
 ·rw[C.mems] at q;exact absurd (aO.1 q) (by simp)
 ·rw[C.tr];exact F
 refine dM (a:=false) (fun F=>qx (by omega) ⟨fun q=>absurd h1 (fx.1 q),fun _=>rD (by omega) ?_⟩) ⟨(fun e=>by cases e),fun _=>?_⟩
 ·rw[yC.2 h2];exact F
 refine dM (a:=false) (fun F=>qp (by omega) hp.inpv ⟨(fun e=>by cases e),fun _=>qp (by omega) hp.statev F⟩) ⟨(fun e=>by cases e),fun _=>h⟩
def combB (k:Nat):Bool:=decide (1<=k/\k<=13)
def dS (pn:Nat->Nat->Nat->Nat) (t:List Nat) (m:Nat) (x:Node):List Nat:=x.ins.mapIdx fun j k=>pn m j (t.getD k 0)
def srcV (c:Circ) (p:Pat) (i:Nat):Nat:=if kd c i=0 then p.inp.getD ((ofN c [0]).idxOf i) 0 else if kd c i=14 then p.state.getD ((ofN c [14]).idxOf i) 0 else 0
def baseV (c:Circ) (p:Pat) (pn:Nat->Nat->Nat->Nat) (t:List Nat) (m:Nat) (x:Node):Nat:=if combB x.kind=true then jP x.kind (dS pn t m x) else srcV c p m
structure Sol (c:Circ) (p:Pat) (nt:Nat->Nat->Nat) (pn:Nat->Nat->Nat->Nat) (t:List Nat):Prop where
 len:t.length=c.nodes.length
 val:∀ i x,c.nodes[i]?=some x->t.getD i 0=nt i (baseV c p pn t i x)
 le:∀ i,t.getD i 0<=3
theorem wD {pn:Nat->Nat->Nat->Nat}{t:List Nat}{m:Nat}{x:Node}:(dS pn t m x).length=x.ins.length:=by unfold dS;simp
theorem xb {pn:Nat->Nat->Nat->Nat}{t:List Nat}{m j y:Nat}{x:Node} (h:x.ins[j]?=some y):(dS pn t m x)[j]?=some (pn m j (t.getD y 0)):=by
 unfold dS;rw[List.getElem?_mapIdx,h];rfl
theorem mQ {pn:Nat->Nat->Nat->Nat}{t u:List Nat}{m:Nat}{x:Node} (h:∀ k∈x.ins,t.getD k 0=u.getD k 0):dS pn t m x=dS pn u m x:=by
 unfold dS;refine List.ext_getElem (by simp) fun i a b=>?_;simp only[List.getElem_mapIdx];rw[h _ (List.getElem_mem _)]
theorem Fa {pn:Nat->Nat->Nat->Nat} (hp:∀ m j v,v<=3->pn m j v<=3) {t:List Nat} (ht:∀ i,t.getD i 0<=3) {m:Nat}{x:Node}:∀ v∈dS pn t m x,v<=3:=by
 intro v h;unfold dS at h;rw[List.mem_mapIdx] at h;obtain⟨i,hi,rfl⟩:=h;exact hp _ _ _ (ht _)
theorem Sol.eq {c:Circ} (C:Cir c) {p:Pat}{nt:Nat->Nat->Nat}{pn:Nat->Nat->Nat->Nat}{t u:List Nat} (T:Sol c p nt pn t) (U:Sol c p nt pn u):t=u:=by
 have key:∀ n i,i<n->t.getD i 0=u.getD i 0:=by
  intro n
  induction n with
  |zero=>intro i h;omega
  |succ n ih =>
   intro i hi;by_cases q:i<c.nodes.length
   ·obtain⟨x,hx⟩:=av q;rw[T.val i x hx,U.val i x hx];congr 1;unfold baseV;split
    ·rename_i hc;have hc:=of_decide_eq_true hc;rw[mQ fun k m=>ih k ?_];have:=(C.good.node i x hx).acyc hc.1 hc.2 k m;omega
    ·rfl
   ·rw[List.getD,List.getD,List.getElem?_eq_none (by rw[T.len];omega),List.getElem?_eq_none (by rw[U.len];omega)]
 refine List.ext_getElem (T.len.trans U.len.symm) fun i a b=>?_;have:=key (i+1) i (by omega);rw[List.getD,List.getElem?_eq_getElem a,List.getD,List.getElem?_eq_getElem b] at this;exact this
theorem yf {l:List Nat} (nd:l.Nodup) {j f:Nat} (h:l[j]?=some f):l.idxOf f=j:=by
 obtain⟨h1,rfl⟩:=List.getElem?_eq_some_iff.1 h;exact nd.idxOf_getElem j h1
theorem Ge {c:Circ} (C:Cir c) {p:Pat} (hp:PatOk c p) {t1 t2:List Nat} (_l2:t2.length=c.nodes.length) (h1:∀ j f,(ofN c [0])[j]?=some f->t1.getD f 0=p.inp.getD j 0) (h2:∀ j f,(ofN c [14])[j]?=some f->t2.getD f 0=p.state.getD j 0) (h3:∀ f,f ∉ ofN c [14]->t2.getD f 0=t1.getD f 0) :
  ∀ i x,c.nodes[i]?=some x->combB x.kind=false->t2.getD i 0=srcV c p i/\t2.getD i 0<=3:=by
 intro i x hx hc;have hc:=of_decide_eq_false hc;have hk:=C.kinds i x hx;have hi:=ag hx;have e:=ia hx;unfold srcV;by_cases k0:x.kind=0
 ·have m:i∈ofN c [0]:=gI.2 ⟨hi,by rw[e];exact k0⟩;obtain⟨j,hj,ej⟩:=List.getElem_of_mem m
  have hj':(ofN c [0])[j]?=some i:=by rw[List.getElem?_eq_getElem hj,ej]
  have hn:i ∉ ofN c [14]:=fun q=>by have:=(gI.1 q).2;omega
  rw[h3 i hn,h1 j i hj',if_pos (by rw[e];exact k0),yf (nK c [0]) hj'];exact⟨rfl,hp.inpv _ (nk (by rw[hp.inp];exact hj))⟩
 ·have k14:x.kind=14:=by omega
  have m:i∈ofN c [14]:=gI.2 ⟨hi,by rw[e];exact k14⟩;obtain⟨j,hj,ej⟩:=List.getElem_of_mem m
  have hj':(ofN c [14])[j]?=some i:=by rw[List.getElem?_eq_getElem hj,ej]
  rw[h2 j i hj',if_neg (by rw[e];exact k0),if_pos (by rw[e];exact k14),yf (nK c [14]) hj'];exact⟨rfl,hp.statev _ (nk (by rw[hp.state];exact hj))⟩
structure RunS (c:Circ) (p:Pat) (nt:Nat->Nat->Nat) (pn:Nat->Nat->Nat->Nat) (o t:List Nat) (i:Nat):Prop where
 len:t.length=c.nodes.length
 done:∀ j m x,j<i->o[j]?=some m->c.nodes[m]?=some x->t.getD m 0=nt m (baseV c p pn t m x)
 todo:∀ j m x,i<=j->o[j]?=some m->c.nodes[m]?=some x->combB x.kind=false->t.getD m 0=srcV c p m
 le:∀ i,t.getD i 0<=3
theorem RunS.step {c:Circ}{p:Pat}{nt:Nat->Nat->Nat}{pn:Nat->Nat->Nat->Nat}{o t:List Nat} (ho:OrdOk c o) {i m:Nat}{x:Node} (T:RunS c p nt pn o t i) (hm:o[i]?=some m) (hx:c.nodes[m]?=some x) (hle:nt m (baseV c p pn t m x)<=3):RunS c p nt pn o (t.set m (nt m (baseV c p pn t m x))) (i+1):=by
 have hml:m<t.length:=by rw[T.len];exact ag hx
 have same:∀ (j m':Nat) (x':Node),j<=i->o[j]?=some m'->c.nodes[m']?=some x'->baseV c p pn (t.set m (nt m (baseV c p pn t m x))) m' x'=baseV c p pn t m' x':=by
  intro j m' x' hj h1 h2;unfold baseV;split
  ·rename_i hc;have hc:=of_decide_eq_true hc;rw[mQ fun k hk=>?_];rw[dB hml,if_neg];rintro rfl;obtain⟨b',hb,hb2⟩:=ho.before j m' x' m h1 h2 hc hk;have:=B5 ho hb2 hm;omega
  ·rfl
 refine⟨by rw[List.length_set];exact T.len,fun j m' x' hj h1 h2=>?_,fun j m' x' hj h1 h2 h3=>?_,fun k=>?_⟩
 ·rw[same j m' x' (by omega) h1 h2,dB hml];by_cases e:m=m'
  ·subst e;rw[if_pos rfl];rw[hx] at h2;cases h2;rfl
  ·rw[if_neg e];refine T.done j m' x' ?_ h1 h2;by_cases e2:j=i
   ·subst e2;rw[hm] at h1;cases h1;exact absurd rfl e
   ·omega
 ·rw[dB hml,if_neg]
  ·exact T.todo j m' x' (by omega) h1 h2 h3
  ·rintro rfl;have:=B5 ho hm h1;omega
 ·rw[dB hml];split
  ·exact hle
  ·exact T.le k
theorem RunS.sol {c:Circ}{p:Pat}{nt:Nat->Nat->Nat}{pn:Nat->Nat->Nat->Nat}{o t:List Nat} (ho:OrdOk c o) (T:RunS c p nt pn o t o.length):Sol c p nt pn t:=by
 refine⟨T.len,fun i x hx=>?_,T.le⟩;have hm:i∈o:=ho.perm.mem_iff.2 (List.mem_range.2 (ag hx));obtain⟨j,hj,e⟩:=List.getElem_of_mem hm;exact T.done j i x hj (by rw[List.getElem?_eq_getElem hj,e]) hx
def Aj (c:Circ) (pn:Nat->Nat->Nat->Nat) (t:List Nat):Rsp:=⟨c.outs.map fun o=>t.getD o 0,(ofN c [14]).map fun s=>min (pn s 0 (t.getD ((insOf c s).getD 0 0) 0)) 2⟩
def idN:Nat->Nat->Nat:=fun _ v=>v
def idP:Nat->Nat->Nat->Nat:=fun _ _ v=>v
theorem ch {c:Circ}{i:Nat}{x:Node} (h:c.nodes[i]?=some x):insOf c i=x.ins:=by unfold insOf;rw[List.getD,List.getElem?_map,h];rfl
def rQ:Bool->Bool->Nat
 |false,true=>0
 |true,false=>1
 |false,false=>2
 |true,true=>3
def laneW (w:Wd) (i:Nat):Nat:=rQ (w.one.testBit i) (w.zero.testBit i)
theorem E0 (a b:Bool):rQ a b<=3:=by cases a <;> cases b <;> decide
theorem iZ (w:Wd) (i:Nat):laneW w i<=3:=E0 _ _
theorem fQ {v i:Nat} (hv:v<=3) (hi:i<64):laneW (kv v) i=v:=by
 have h1:mM.testBit i=true:=by
  unfold mM;rw[Nat.testBit_two_pow_sub_one];exact decide_eq_true hi
 have h0:(0:Nat).testBit i=false:=Nat.zero_testBit i
 have:v=0\/v=1\/v=2\/v=3:=by omega
 unfold laneW kv
 rcases this with rfl|rfl|rfl|rfl
 ·show rQ ((0:Nat).testBit i) (mM.testBit i)=0
  rw[h0,h1];rfl
 ·show rQ (mM.testBit i) ((0:Nat).testBit i)=1
  rw[h0,h1];rfl
 ·show rQ ((0:Nat).testBit i) ((0:Nat).testBit i)=2
  rw[h0];rfl
 ·show rQ (mM.testBit i) (mM.testBit i)=3
  rw[h1];rfl
def oy (w:Wd):Wd:=⟨aU w.one (aB w.one w.zero),aU w.zero (aB w.one w.zero)⟩
theorem ct {w:Wd}{i:Nat} (hi:i<64):laneW (oy w) i=min (laneW w i) 2:=by
 unfold laneW oy;rw[cB hi,cB hi,cm hi]
 cases w.one.testBit i <;> cases w.zero.testBit i <;> rfl
theorem qh {w:Wd}{i:Nat} (h:laneW w i<=2):laneW (⟨w.zero,w.one⟩:Wd) i=lu (laneW w i):=by
 unfold laneW at h ⊢;revert h
 show rQ (w.one.testBit i) (w.zero.testBit i)<=2->rQ (w.zero.testBit i) (w.one.testBit i)=_
 cases w.one.testBit i <;> cases w.zero.testBit i <;> intro h <;> first|rfl | (exact absurd h (by decide))
def vG (a b:Nat):Nat:=if a=0\/b=0 then 0 else if a=1/\b=1 then 1 else 2
def or2 (a b:Nat):Nat:=if a=1\/b=1 then 1 else if a=0/\b=0 then 0 else 2
def sy (a b:Nat):Nat:=if a<=1/\b<=1 then a ^^^ b else 2
theorem Di {x y:Wd}{i:Nat} (hi:i<64) (hx:laneW x i<=2) (hy:laneW y i<=2):laneW (⟨aB x.one y.one,bM x.zero y.zero⟩:Wd) i=vG (laneW x i) (laneW y i):=by
 unfold laneW at *;rw[cm hi,cU hi];revert hx hy
 cases x.one.testBit i <;> cases x.zero.testBit i <;> cases y.one.testBit i <;> cases y.zero.testBit i <;> decide
theorem Ee {x y:Wd}{i:Nat} (hi:i<64) (hx:laneW x i<=2) (hy:laneW y i<=2):laneW (⟨bM x.one y.one,aB x.zero y.zero⟩:Wd) i=or2 (laneW x i) (laneW y i):=by
 unfold laneW at *;rw[cm hi,cU hi];revert hx hy
 cases x.one.testBit i <;> cases x.zero.testBit i <;> cases y.one.testBit i <;> cases y.zero.testBit i <;> decide
theorem CT {x y:Wd}{i:Nat} (hi:i<64) (hx:laneW x i<=2) (hy:laneW y i<=2):laneW (⟨bM (aB x.one y.zero) (aB x.zero y.one),bM (aB x.one y.one) (aB x.zero y.zero)⟩:Wd) i=sy (laneW x i) (laneW y i):=by
 unfold laneW at *;rw[cU hi,cU hi,cm hi,cm hi,cm hi,cm hi];revert hx hy
 cases x.one.testBit i <;> cases x.zero.testBit i <;> cases y.one.testBit i <;> cases y.zero.testBit i <;> decide
theorem Dh (l:List Nat):l.foldl vG 0=0:=by
 induction l with
 |nil=>rfl
 |cons a l ih=>exact ih
theorem uN:∀ (l:List Nat) (o:Nat),(∀ v∈l,v<=2)->o=1\/o=2->l.foldl vG o=cV 0 1 l o
 |[],o,_,_=>rfl
 |v::l,o,hl,ho=>by
  have hv:=hl v (.head _);have ih:=fun o'=>uN l o' (fun x m=>hl x (.tail _ m));rw[List.foldl_cons,cV];by_cases e0:v=0
  ·subst e0;rw[if_pos rfl]
   have:vG o 0=0:=by unfold vG;rw[if_pos (.inr rfl)]
   rw[this,Dh]
  ·rw[if_neg e0]
   have e:vG o v=if v=1 then o else 2:=by
    unfold vG
    rcases ho with rfl|rfl
    ·rw[if_neg (by omega)];by_cases e1:v=1
     ·rw[if_pos ⟨rfl,e1⟩,if_pos e1]
     ·rw[if_neg (fun q=>e1 q.2),if_neg e1]
    ·rw[if_neg (by omega),if_neg (by omega)]
     split <;> rfl
   rw[e];refine ih _ ?_;split
   ·exact ho
   ·exact .inr rfl
theorem Hc (l:List Nat):l.foldl or2 1=1:=by
 induction l with
 |nil=>rfl
 |cons a l ih=>exact ih
theorem xN:∀ (l:List Nat) (o:Nat),(∀ v∈l,v<=2)->o=0\/o=2->l.foldl or2 o=cV 1 0 l o
 |[],o,_,_=>rfl
 |v::l,o,hl,ho=>by
  have hv:=hl v (.head _);have ih:=fun o'=>xN l o' (fun x m=>hl x (.tail _ m));rw[List.foldl_cons,cV];by_cases e0:v=1
  ·subst e0;rw[if_pos rfl]
   have:or2 o 1=1:=by unfold or2;rw[if_pos (.inr rfl)]
   rw[this,Hc]
  ·rw[if_neg e0]
   have e:or2 o v=if v=0 then o else 2:=by
    unfold or2
    rcases ho with rfl|rfl
    ·rw[if_neg (by omega)];by_cases e1:v=0
     ·rw[if_pos ⟨rfl,e1⟩,if_pos e1]
     ·rw[if_neg (fun q=>e1 q.2),if_neg e1]
    ·rw[if_neg (by omega),if_neg (by omega)]
     split <;> rfl
   rw[e];refine ih _ ?_;split
   ·exact ho
   ·exact .inr rfl
theorem Eo (l:List Nat):l.foldl sy 2=2:=by
 induction l with
 |nil=>rfl
 |cons a l ih =>
  rw[List.foldl_cons]
  have:sy 2 a=2:=by unfold sy;rw[if_neg (by omega)]
  rw[this];exact ih
theorem uE:∀ (l:List Nat) (o:Nat),o<=1->l.foldl sy o=lN l o
 |[],_,_=>rfl
 |v::l,o,ho=>by
  rw[List.foldl_cons,lN];by_cases e:v<=1
  ·rw[if_pos e]
   have:sy o v=o ^^^ v:=by unfold sy;rw[if_pos ⟨ho,e⟩]
   rw[this];refine uE l _ ?_
   have h1:o=0\/o=1:=by omega
   have h2:v=0\/v=1:=by omega
   rcases h1 with rfl|rfl <;> rcases h2 with rfl|rfl <;> decide
  ·rw[if_neg e]
   have:sy o v=2:=by unfold sy;rw[if_neg (fun q=>e q.2)]
   rw[this,Eo]
theorem Cl (a b:Nat):vG a b<=2:=by unfold vG;split <;> (try split) <;> omega
theorem FJ (a b:Nat):or2 a b<=2:=by unfold or2;split <;> (try split) <;> omega
theorem BZ (a b:Nat):sy a b<=2:=by
 unfold sy;split
 ·rename_i h
  have h1:a=0\/a=1:=by omega
  have h2:b=0\/b=1:=by omega
  rcases h1 with rfl|rfl <;> rcases h2 with rfl|rfl <;> decide
 ·exact Nat.le_refl _
theorem lE {f:Nat->Nat->Nat} (hf:∀ a b,f a b<=2):∀ (l:List Nat) (o:Nat),o<=2->l.foldl f o<=2
 |[],_,h=>h
 |v::l,o,_=>by rw[List.foldl_cons];exact lE hf l _ (hf _ _)
def RdW (l:List Wd):Prop:=∀ w∈l,∀ i,i<64->laneW w i<=2
theorem yk {l:List Wd} (h:RdW l) {i:Nat} (hi:i<64):∀ v∈l.map (laneW · i),v<=2:=by
 intro v m;obtain⟨w,hw,rfl⟩:=List.mem_map.1 m;exact h w hw i hi
section
variable {l:List Wd} {K:Wd->Prop}
theorem Cw (hl:l.length<2 ^ 60) (hr:RdW l) (h:∀ r:Wd,(∀ i,i<64->laneW r i=cV 0 1 (l.map (laneW · i)) 1)->K r):gY l K:=by
 refine⟨by decide,aA (fun s=>s.2.2<=l.length/\∀ i,i<64->laneW ⟨s.1,s.2.1⟩ i=((l.take s.2.2).map (laneW · i)).foldl vG 1) (fun s=>l.length-s.2.2) (fun a=>∀ i,i<64->laneW ⟨a.1,a.2⟩ i=cV 0 1 (l.map (laneW · i)) 1) ?_ ⟨Nat.zero_le _,fun i hi=>fQ (v:=1) (by decide) hi⟩ fun a ha=>h _ ha⟩;rintro k ⟨o,z,j⟩ nx ⟨hj,hI⟩ hnx hk;dsimp only at hj hI;refine⟨fun q=>?_,fun q=>hk _ fun i hi=>?_⟩
 ·have q:j<l.length:=aO.1 q;obtain⟨x,hx⟩:=av q;refine⟨x,hx,by omega,hnx _ ⟨q,fun i hi=>?_⟩ (by dsimp only;omega)⟩;dsimp only
  have h2:laneW ⟨o,z⟩ i<=2:=by rw[hI i hi];exact lE Cl _ _ (by decide)
  have:=Di (x:=⟨o,z⟩) (y:=x) hi h2 (hr x (List.mem_of_getElem? hx) i hi);rw[this,hI i hi,List.take_add_one,hx,Option.toList_some,List.map_append,List.foldl_append];rfl
 ·have q:l.length<=j:=bk.1 q;dsimp only;rw[hI i hi,List.take_of_length_le q,uN _ _ (yk hr hi) (.inl rfl)]
theorem Et (hl:l.length<2 ^ 60) (hr:RdW l) (h:∀ r:Wd,(∀ i,i<64->laneW r i=cV 1 0 (l.map (laneW · i)) 0)->K r):iX l K:=by
 refine⟨by decide,aA (fun s=>s.2.2<=l.length/\∀ i,i<64->laneW ⟨s.1,s.2.1⟩ i=((l.take s.2.2).map (laneW · i)).foldl or2 0) (fun s=>l.length-s.2.2) (fun a=>∀ i,i<64->laneW ⟨a.1,a.2⟩ i=cV 1 0 (l.map (laneW · i)) 0) ?_ ⟨Nat.zero_le _,fun i hi=>fQ (v:=0) (by decide) hi⟩ fun a ha=>h _ ha⟩;rintro k ⟨o,z,j⟩ nx ⟨hj,hI⟩ hnx hk;dsimp only at hj hI;refine⟨fun q=>?_,fun q=>hk _ fun i hi=>?_⟩
 ·have q:j<l.length:=aO.1 q;obtain⟨x,hx⟩:=av q;refine⟨x,hx,by omega,hnx _ ⟨q,fun i hi=>?_⟩ (by dsimp only;omega)⟩;dsimp only
  have h2:laneW ⟨o,z⟩ i<=2:=by rw[hI i hi];exact lE FJ _ _ (by decide)
  have:=Ee (x:=⟨o,z⟩) (y:=x) hi h2 (hr x (List.mem_of_getElem? hx) i hi);rw[this,hI i hi,List.take_add_one,hx,Option.toList_some,List.map_append,List.foldl_append];rfl
 ·have q:l.length<=j:=bk.1 q;dsimp only;rw[hI i hi,List.take_of_length_le q,xN _ _ (yk hr hi) (.inl rfl)]
theorem Ca (hl:l.length<2 ^ 60) (hr:RdW l) (h:∀ r:Wd,(∀ i,i<64->laneW r i=lN (l.map (laneW · i)) 0)->K r):gG l K:=by
 refine⟨by decide,aA (fun s=>s.2.2<=l.length/\∀ i,i<64->laneW ⟨s.1,s.2.1⟩ i=((l.take s.2.2).map (laneW · i)).foldl sy 0) (fun s=>l.length-s.2.2) (fun a=>∀ i,i<64->laneW ⟨a.1,a.2⟩ i=lN (l.map (laneW · i)) 0) ?_ ⟨Nat.zero_le _,fun i hi=>fQ (v:=0) (by decide) hi⟩ fun a ha=>h _ ha⟩;rintro k ⟨o,z,j⟩ nx ⟨hj,hI⟩ hnx hk;dsimp only at hj hI;refine⟨fun q=>?_,fun q=>hk _ fun i hi=>?_⟩
 ·have q:j<l.length:=aO.1 q;obtain⟨x,hx⟩:=av q;refine⟨x,hx,by omega,hnx _ ⟨q,fun i hi=>?_⟩ (by dsimp only;omega)⟩;dsimp only
  have h2:laneW ⟨o,z⟩ i<=2:=by rw[hI i hi];exact lE BZ _ _ (by decide)
  have:=CT (x:=⟨o,z⟩) (y:=x) hi h2 (hr x (List.mem_of_getElem? hx) i hi);rw[this,hI i hi,List.take_add_one,hx,Option.toList_some,List.map_append,List.foldl_append];rfl
 ·have q:l.length<=j:=bk.1 q;dsimp only;rw[hI i hi,List.take_of_length_le q,uE _ _ (by decide)]
end
theorem EI {s a b:Wd}{i:Nat} (hi:i<64) (hs:laneW s i<=2) (ha:laneW a i<=2) (hb:laneW b i<=2) :
  laneW (⟨bM (bM (aB s.zero a.one) (aB s.one b.one)) (aB a.one b.one),bM (bM (aB s.zero a.zero) (aB s.one b.zero)) (aB a.zero b.zero)⟩:Wd) i=tX (laneW s i) (laneW a i) (laneW b i):=by
 unfold laneW at *;simp only[cU hi,cm hi];revert hs ha hb
 cases s.one.testBit i <;> cases s.zero.testBit i <;> cases a.one.testBit i <;> cases a.zero.testBit i <;> cases b.one.testBit i <;> cases b.zero.testBit i <;> decide
theorem Gv {e d:Wd}{i:Nat} (hi:i<64) (he:laneW e i<=2) (hd:laneW d i<=2) :
  laneW (⟨bM e.zero (aB e.one d.one),bM e.zero (aB e.one d.zero)⟩:Wd) i=ve (laneW e i) (laneW d i):=by
 unfold laneW at *;simp only[cU hi,cm hi];revert he hd
 cases e.one.testBit i <;> cases e.zero.testBit i <;> cases d.one.testBit i <;> cases d.zero.testBit i <;> decide
def Jy (a0 a1 a2:Bool):Nat:=if a2||(a0&&a1) then 2 else if a1 then 1 else if a0 then 0 else 3
theorem HT {l:List Nat} (hl:∀ v∈l,v<=3):xu l=Jy (l.any (· == 0)) (l.any (· == 1)) (l.any (· == 2)):=by
 have c0:l.contains 0=l.any (· == 0):=by rw[Bool.eq_iff_iff];simp
 have c1:l.contains 1=l.any (· == 1):=by rw[Bool.eq_iff_iff];simp
 have c2:l.any (fun v=>xO v==2)=l.any (· == 2):=by
  rw[Bool.eq_iff_iff,List.any_eq_true,List.any_eq_true];constructor
  ·rintro⟨v,m,e⟩;refine⟨v,m,?_⟩;have:=hl v m;unfold xO at e;rw[if_neg (by omega)] at e;exact e
  ·rintro⟨v,m,e⟩;refine⟨v,m,?_⟩;have:=hl v m;unfold xO;rw[if_neg (by omega)];exact e
 unfold xu I3 Jy;rw[c0,c1,c2]
 cases q:l.findIdx? fun v=>v != 3 with
 |none =>
  rw[List.findIdx?_eq_none_iff] at q
  have no:∀ k,k≠3->l.any (· == k)=false:=fun k hk=>by
   rw[List.any_eq_false];intro v m;have:=q v m
   have e3:v=3:=by simpa using this
   simp[e3];omega
  rw[no 0 (by decide),no 1 (by decide),no 2 (by decide)];rfl
 |some j =>
  obtain⟨hj,hp,hb⟩:=List.findIdx?_eq_some_iff_getElem.1 q;have hv:=hl l[j] (List.getElem_mem hj)
  have h3:l[j]≠3:=by simpa using hp
  have hg:l.getD j 0=l[j]:=by rw[List.getD,List.getElem?_eq_getElem hj];rfl
  simp only[hg];have yes:∀ k,l[j]=k->l.any (· == k)=true:=fun k e=>List.any_eq_true.2 ⟨l[j],List.getElem_mem hj,by simp[e]⟩
  have hc:l[j]=0\/l[j]=1\/l[j]=2:=by omega
  rcases hc with e|e|e
  ·rw[yes 0 e,e]
   cases l.any (· == 1) <;> cases l.any (· == 2) <;> rfl
  ·rw[yes 1 e,e]
   cases l.any (· == 0) <;> cases l.any (· == 2) <;> rfl
  ·rw[yes 2 e,e]
   cases l.any (· == 0) <;> cases l.any (· == 1) <;> rfl
theorem uq {p:Nat->Bool} (l:List Nat) (v:Nat):(l++[v]).any p=(l.any p||p v):=by simp
theorem HD {l:List Wd}{K:Wd->Prop} (hl:l.length<2 ^ 60) (h:∀ r:Wd,(∀ i,i<64->laneW r i=xu (l.map (laneW · i)))->K r):ju l K:=by
 refine aA (fun s=>s.2.2.2<=l.length/\∀ i,i<64->s.1.testBit i=((l.take s.2.2.2).map (laneW · i)).any (· == 1)/\s.2.1.testBit i=((l.take s.2.2.2).map (laneW · i)).any (· == 0)/\s.2.2.1.testBit i=((l.take s.2.2.2).map (laneW · i)).any (· == 2)) (fun s=>l.length-s.2.2.2)
  (fun a=>∀ i,i<64->a.1.testBit i=(l.map (laneW · i)).any (· == 1)/\a.2.1.testBit i=(l.map (laneW · i)).any (· == 0)/\a.2.2.testBit i=(l.map (laneW · i)).any (· == 2)) ?_ ⟨Nat.zero_le _,fun i _=>⟨Nat.zero_testBit i,Nat.zero_testBit i,Nat.zero_testBit i⟩⟩ ?_
 ·rintro k ⟨o,z,u,j⟩ nx ⟨hj,hI⟩ hnx hk;dsimp only at hj hI;refine⟨fun q=>?_,fun q=>hk _ fun i hi=>?_⟩
  ·have q:j<l.length:=aO.1 q;obtain⟨x,hx⟩:=av q;refine⟨x,hx,by omega,hnx _ ⟨q,fun i hi=>?_⟩ (by dsimp only;omega)⟩;dsimp only;obtain⟨h1,h2,h3⟩:=hI i hi
   have e:(l.take (j+1)).map (laneW · i)=(l.take j).map (laneW · i)++[laneW x i]:=by rw[List.take_add_one,hx];simp
   rw[e,uq,uq,uq,<- h1,<- h2,<- h3,cU hi,cU hi,cU hi,cB hi,cB hi,qP hi,cU hi];unfold laneW
   cases x.one.testBit i <;> cases x.zero.testBit i <;> exact⟨rfl,rfl,rfl⟩
  ·have q:l.length<=j:=bk.1 q;have:=hI i hi;rw[List.take_of_length_le q] at this;exact this
 ·rintro⟨o,z,u⟩ ha;refine h _ fun i hi=>?_;obtain⟨h1,h2,h3⟩:=ha i hi;dsimp only at h1 h2 h3;rw[HT (fun v m=>by obtain⟨w,_,rfl⟩:=List.mem_map.1 m;exact iZ _ _),<- h1,<- h2,<- h3];unfold laneW;rw[cB hi,cB hi,qP hi,qP hi,cU hi,cm hi]
  cases o.testBit i <;> cases z.testBit i <;> cases u.testBit i <;> rfl
theorem na (low high:Nat) (hl:low<=1) (hh:high<=1):∀ (l:List Nat) (o:Nat),cV low high (l.map fun v=>min v 2) o=cV low high l o
 |[],_=>rfl
 |v::l,o=>by
  rw[List.map_cons,cV,cV,na low high hl hh l];by_cases h:v<=2
  ·rw[Nat.min_eq_left h]
  ·rw[Nat.min_eq_right (by omega),if_neg (by omega),if_neg (by omega),if_neg (by omega),if_neg (by omega)]
theorem tq:∀ (l:List Nat) (o:Nat),lN (l.map fun v=>min v 2) o=lN l o
 |[],_=>rfl
 |v::l,o=>by
  rw[List.map_cons,lN,lN];by_cases h:v<=1
  ·rw[Nat.min_eq_left (by omega),if_pos h,if_pos h,tq l]
  ·rw[if_neg (by omega),if_neg h]
theorem E3 (v:Nat):lu (min v 2)=lu v:=by
 unfold lu;by_cases h:v<=1
 ·rw[Nat.min_eq_left (by omega)]
 ·rw[if_neg (by omega),if_neg h]
theorem FF {s a b:Nat} (hs:s<=3) (ha:a<=3) (hb:b<=3):tX (min s 2) (min a 2) (min b 2)=tX s a b:=by
 have key:∀ s,s<=3->∀ a,a<=3->∀ b,b<=3->tX (min s 2) (min a 2) (min b 2)=tX s a b:=by decide
 exact key s hs a ha b hb
theorem D4 {e d:Nat} (he:e<=3) (hd:d<=3):ve (min e 2) (min d 2)=ve e d:=by
 have key:∀ e,e<=3->∀ d,d<=3->ve (min e 2) (min d 2)=ve e d:=by decide
 exact key e he d hd
theorem G5 (l:List Wd):RdW (l.map oy):=by
 intro w m i hi;obtain⟨x,_,rfl⟩:=List.mem_map.1 m;rw[ct hi];omega
theorem kU (l:List Wd) {i:Nat} (hi:i<64):(l.map oy).map (laneW · i)=(l.map (laneW · i)).map fun v=>min v 2:=by
 rw[List.map_map,List.map_map];refine List.map_congr_left fun x _=>?_;exact ct hi
theorem iq (l:List Wd) (i:Nat) {j:Nat}{x:Wd} (h:l[j]?=some x):(l.map (laneW · i)).getD j 0=laneW x i:=by
 rw[List.getD,List.getElem?_map,h];rfl
theorem AJ {n:Nat} (h:Arity 11 n):n=3:=by
 obtain⟨h1,h2⟩:=h;have h1:3<=n:=h1;have h2:Int.ofNat n<=3:=h2;simp only[Int.ofNat_eq_natCast] at h2;omega
theorem FD {k:Nat}{l:List Wd}{K:Wd->Prop} (hk0:1<=k) (hk:k<=13) (ha:Arity k l.length) (hl:l.length<=1024) (h:∀ r:Wd,(∀ i,i<64->laneW r i=jP k (l.map (laneW · i)))->K r):ft k l K:=by
 unfold ft;refine yT (by omega) ?_;refine dG (fun b=>b=false) (fun k1 hk1=>⟨fun q=>?_,fun q=>hk1 _ (sn.2 ha.2)⟩) fun b hb=>⟨fun q=>(by rw[hb] at q;cases q),fun _=>⟨fun q=>?_,fun q13=>⟨by omega,by omega,?_⟩⟩⟩
 ·have:=aO.1 q;have:=ha.1;simp only at *;omega
 ·have q:=dA.1 q;subst q;exact HD (by omega) fun r hr=>h r fun i hi=>(hr i hi).trans rfl
 have q13:=cY.1 q13;refine aA (fun s=>s.2<=l.length/\s.1.length=l.length/\∀ q,q<s.2->s.1[q]?=(l.map oy)[q]?) (fun s=>l.length-s.2) (fun v=>v=l.map oy) ?_ ⟨Nat.zero_le _,by simp,fun q hq=>absurd hq (Nat.not_lt_zero _)⟩ ?_
 ·rintro k2 ⟨v,j⟩ nx ⟨hj,hvl,hv⟩ hnx hk2;dsimp only at hj hvl hv;refine⟨fun q=>?_,fun q=>hk2 _ ?_⟩
  ·have q:j<l.length:=aO.1 q;obtain⟨x,hx⟩:=av q;obtain⟨y,hy⟩:=av (show j<v.length by omega);refine⟨x,hx,?_⟩
   show j<l.length/\_
   refine⟨q,y,hy,by omega,hnx (v.set j (oy x),j+1) ⟨q,by simp[hvl],fun p hp=>?_⟩ (by dsimp only;omega)⟩;dsimp only at hp ⊢;rw[List.getElem?_set];by_cases e:j=p
   ·subst e;rw[if_pos rfl,if_pos (by omega),List.getElem?_map,hx];rfl
   ·rw[if_neg e];exact hv p (by omega)
  ·have q:l.length<=j:=bk.1 q;apply List.ext_getElem?;intro p;by_cases hp:p<l.length
   ·exact hv p (by omega)
   ·rw[List.getElem?_eq_none (by omega),List.getElem?_eq_none (by simp;omega)]
 ·rintro v rfl;have R:=G5 l
  have hll:(l.map oy).length<2 ^ 60:=by rw[List.length_map];omega
  have gx:∀ j,j<l.length->∃ x,l[j]?=some x/\(l.map oy)[j]?=some (oy x):=fun j hj=>by
   obtain⟨x,hx⟩:=av hj;exact⟨x,hx,by rw[List.getElem?_map,hx];rfl⟩
  have ev:∀ i,jP k (l.map (laneW · i))=if k=12 then ve ((l.map (laneW · i)).getD 0 0) ((l.map (laneW · i)).getD 1 0) else zd k (l.map (laneW · i)):=fun i=>by
   unfold jP;rw[if_neg (show ¬ k=13 from q13)]
  refine⟨fun q=>?_,fun n1=>⟨fun q=>?_,fun n2=>⟨fun q=>?_,fun n3=>⟨fun q=>?_,fun n4=>⟨fun q=>?_,fun n5=>⟨fun q=>?_,fun n6=>⟨fun q=>?_,fun n7=>⟨fun q=>?_,fun n8=>⟨fun q=>?_,fun n9=>⟨fun q=>?_,fun n10=>⟨fun q=>?_,fun n11=>⟨fun q=>?_,fun n12=>?_⟩⟩⟩⟩⟩⟩⟩⟩⟩⟩⟩⟩
  ·have q:=dA.1 q;subst q;exact⟨by decide,h _ fun i hi=>(fQ (by decide) hi).trans rfl⟩
  ·have q:=dA.1 q;subst q;exact⟨by decide,h _ fun i hi=>(fQ (by decide) hi).trans rfl⟩
  ·have q:=dA.1 q;subst q;have hn:=xc ha;obtain⟨x,hx,hr⟩:=gx 0 (by omega);refine⟨by omega,_,hr,h _ fun i hi=>?_⟩;rw[ct hi,ev i]
   show _=min ((l.map (laneW · i)).getD 0 0) 2
   rw[iq l i hx]
  ·have q:=dA.1 q;subst q;have hn:=wC ha;obtain⟨x,hx,hr⟩:=gx 0 (by omega);refine⟨by omega,_,hr,h _ fun i hi=>?_⟩;rw[qh (by rw[ct hi];omega),ct hi,E3,ev i]
   show _=lu ((l.map (laneW · i)).getD 0 0)
   rw[iq l i hx]
  ·have q:=dA.1 q;subst q;refine⟨by simp,Cw hll R fun r hr=>h r fun i hi=>?_⟩;rw[hr i hi,kU l hi,na 0 1 (by decide) (by decide)];rfl
  ·have q:=dA.1 q;subst q;refine⟨by simp,Cw hll R fun r hr=>h _ fun i hi=>?_⟩
   have hle:laneW r i<=2:=by rw[hr i hi,<- uN _ _ (yk R hi) (.inl rfl)];exact lE Cl _ _ (by decide)
   rw[qh hle,hr i hi,kU l hi,na 0 1 (by decide) (by decide)];rfl
  ·have q:=dA.1 q;subst q;refine⟨by simp,Et hll R fun r hr=>h r fun i hi=>?_⟩;rw[hr i hi,kU l hi,na 1 0 (by decide) (by decide)];rfl
  ·have q:=dA.1 q;subst q;refine⟨by simp,Et hll R fun r hr=>h _ fun i hi=>?_⟩
   have hle:laneW r i<=2:=by rw[hr i hi,<- xN _ _ (yk R hi) (.inl rfl)];exact lE FJ _ _ (by decide)
   rw[qh hle,hr i hi,kU l hi,na 1 0 (by decide) (by decide)];rfl
  ·have q:=dA.1 q;subst q;refine⟨by simp,Ca hll R fun r hr=>h r fun i hi=>?_⟩;rw[hr i hi,kU l hi,tq];rfl
  ·have q:=dA.1 q;subst q;refine⟨by simp,Ca hll R fun r hr=>h _ fun i hi=>?_⟩
   have hle:laneW r i<=2:=by rw[hr i hi,<- uE _ _ (by decide)];exact lE BZ _ _ (by decide)
   rw[qh hle,hr i hi,kU l hi,tq];rfl
  ·have q:=dA.1 q;subst q;have hn:=AJ ha;obtain⟨s,hs,hr0⟩:=gx 0 (by omega);obtain⟨a,haa,hr1⟩:=gx 1 (by omega);obtain⟨b,hbb,hr2⟩:=gx 2 (by omega);refine⟨by omega,_,hr0,by omega,_,hr1,by omega,_,hr2,h _ fun i hi=>?_⟩;rw[EI hi (by rw[ct hi];omega) (by rw[ct hi];omega) (by rw[ct hi];omega),ct hi,ct hi,ct hi,FF (iZ _ _) (iZ _ _) (iZ _ _),ev i]
   show _=tX ((l.map (laneW · i)).getD 0 0) ((l.map (laneW · i)).getD 1 0) ((l.map (laneW · i)).getD 2 0)
   rw[iq l i hs,iq l i haa,iq l i hbb]
  ·have q:=dA.1 q;subst q;have hn:=DN ha;obtain⟨s,hs,hr0⟩:=gx 0 (by omega);obtain⟨a,haa,hr1⟩:=gx 1 (by omega);refine⟨by omega,_,hr0,by omega,_,hr1,h _ fun i hi=>?_⟩;rw[Gv hi (by rw[ct hi];omega) (by rw[ct hi];omega),ct hi,ct hi,D4 (iZ _ _) (iZ _ _),ev i,if_pos rfl,iq l i hs,iq l i haa]
  ·have a1:=cY.1 n1;have a2:=cY.1 n2;have a3:=cY.1 n3;have a4:=cY.1 n4;have a5:=cY.1 n5;have a6:=cY.1 n6;have a7:=cY.1 n7;have a8:=cY.1 n8;have a9:=cY.1 n9;have a10:=cY.1 n10;have a11:=cY.1 n11;have a12:=cY.1 n12;omega
def pc (c:Circ) (p:Pat) (nt:Nat->Nat->Nat) (pn:Nat->Nat->Nat->Nat):Nat->List Nat
 |0=>[]
 |i+1=>pc c p nt pn i++[match c.nodes[i]? with|some x=>nt i (baseV c p pn (pc c p nt pn i) i x) | none=>0]
def sol (c:Circ) (p:Pat) (nt:Nat->Nat->Nat) (pn:Nat->Nat->Nat->Nat):List Nat:=pc c p nt pn c.nodes.length
theorem gD {c:Circ}{p:Pat}{nt:Nat->Nat->Nat}{pn:Nat->Nat->Nat->Nat}:∀ n,(pc c p nt pn n).length=n
 |0=>rfl
 |n+1=>by rw[pc,List.length_append,gD n];rfl
theorem uv {c:Circ}{p:Pat}{nt:Nat->Nat->Nat}{pn:Nat->Nat->Nat->Nat}{i:Nat}:∀ {n},i<n->(pc c p nt pn n).getD i 0=(pc c p nt pn (i+1)).getD i 0:=by
 intro n
 induction n with
 |zero=>intro h;omega
 |succ n ih =>
  intro h;by_cases e:i=n
  ·subst e;rfl
  ·rw[<- ih (by omega)];rw[pc,List.getD,List.getD,List.getElem?_append_left (by rw[gD];omega)]
theorem vU {c:Circ}{p:Pat}{nt:Nat->Nat->Nat}{pn:Nat->Nat->Nat->Nat}{i:Nat}{x:Node} (hx:c.nodes[i]?=some x):(pc c p nt pn (i+1)).getD i 0=nt i (baseV c p pn (pc c p nt pn i) i x):=by
 rw[pc,List.getD,List.getElem?_append_right (by rw[gD];omega),gD,Nat.sub_self,hx];rfl
theorem GW {c:Circ}{p:Pat} (hp:PatOk c p) (i:Nat):srcV c p i<=3:=by
 unfold srcV
 have key:∀ (l:List Nat) (j:Nat),(∀ v∈l,v<=3)->l.getD j 0<=3:=by
  intro l j h;by_cases q:j<l.length
  ·exact h _ (nk q)
  ·rw[List.getD,List.getElem?_eq_none (by omega)];exact Nat.zero_le _
 split
 ·exact key _ _ hp.inpv
 split
 ·exact key _ _ hp.statev
 ·omega
theorem Gr {c:Circ}{p:Pat} (hp:PatOk c p) {pn:Nat->Nat->Nat->Nat} (h2:∀ m j v,v<=3->pn m j v<=3) {t:List Nat} (ht:∀ i,t.getD i 0<=3) (i:Nat) (x:Node):baseV c p pn t i x<=3:=by
 unfold baseV;split
 ·exact E8 _ (Fa h2 ht)
 ·exact GW hp i
theorem xJ {c:Circ}{p:Pat} (hp:PatOk c p) {nt:Nat->Nat->Nat}{pn:Nat->Nat->Nat->Nat} (h1:∀ i v,v<=3->nt i v<=3) (h2:∀ m j v,v<=3->pn m j v<=3):∀ n i,(pc c p nt pn n).getD i 0<=3
 |0,i=>by rw[pc];simp
 |n+1,i=>by
  by_cases q:i<n
  ·rw[pc,List.getD,List.getElem?_append_left (by rw[gD];omega)];exact xJ hp h1 h2 n i
  by_cases e:i=n
  ·subst e
   cases hx:c.nodes[i]? with
   |none =>
    rw[pc,List.getD,List.getElem?_append_right (by rw[gD];omega),gD,Nat.sub_self,hx];exact Nat.zero_le _
   |some x =>
    rw[vU hx];exact h1 _ _ (Gr hp h2 (xJ hp h1 h2 i) _ _)
  ·rw[List.getD,List.getElem?_eq_none (by rw[gD];omega)];exact Nat.zero_le _
theorem oG {c:Circ} (C:Cir c) {p:Pat} (hp:PatOk c p) {nt:Nat->Nat->Nat}{pn:Nat->Nat->Nat->Nat} (h1:∀ i v,v<=3->nt i v<=3) (h2:∀ m j v,v<=3->pn m j v<=3):Sol c p nt pn (sol c p nt pn):=by
 refine⟨gD _,fun i x hx=>?_,xJ hp h1 h2 _⟩;have hi:=ag hx;unfold sol;rw[uv hi,vU hx];congr 1;unfold baseV;split
 ·rename_i hc;have hc:=of_decide_eq_true hc;congr 1;refine mQ fun k hk=>?_;have:=(C.good.node i x hx).acyc hc.1 hc.2 k hk;rw[uv this,<- uv (n:=c.nodes.length) (by omega)]
 ·rfl
theorem Sol.is {c:Circ} (C:Cir c) {p:Pat} (hp:PatOk c p) {nt:Nat->Nat->Nat}{pn:Nat->Nat->Nat->Nat} (h1:∀ i v,v<=3->nt i v<=3) (h2:∀ m j v,v<=3->pn m j v<=3) {t:List Nat} (T:Sol c p nt pn t):t=sol c p nt pn:=T.eq C (oG C hp h1 h2)
theorem pX {c:Circ}{p:Pat}{pn:Nat->Nat->Nat->Nat}{t:List Nat}{m:Nat}{x:Node} (hc:combB x.kind=false):baseV c p pn t m x=srcV c p m:=by unfold baseV;rw[hc];rfl
theorem lr {c:Circ}{p:Pat}{pn:Nat->Nat->Nat->Nat}{t:List Nat}{m:Nat}{x:Node} (hc:combB x.kind=true):baseV c p pn t m x=jP x.kind (dS pn t m x):=by unfold baseV;rw[hc];rfl
def lx (a:Nat) (pin:Int) (w:Nat):Nat->Nat->Nat->Nat:=fun m j v=>if m=a/\Int.ofNat j=pin then w else v
def nf (a w:Nat):Nat->Nat->Nat:=fun m v=>if m=a then w else v
structure StuckOk (c:Circ) (f:Flt):Prop where
 model:f.model=0
 value:f.value<=1
 other:f.other=0
 node:f.line.node<c.nodes.length
 pin1 : -1<=f.line.pin
 pin2:f.line.pin<Int.ofNat (insOf c f.line.node).length
theorem zN {c:Circ} (C:Cir c) {K:Nat->Prop} (h:K 0):cZ c K:=by
 unfold cZ;refine zC C.good ⟨(fun q=>absurd rfl (fx.1 q)),fun _=>⟨fun q=>?_,fun _=>h⟩⟩;have:=aO.1 q;rw[C.mems] at this;exact absurd this (Nat.not_lt_zero _)
theorem G2 {c:Circ}{l:LnZ} (h1:l.node<c.nodes.length) (h2 : -1<=l.pin) (h3:l.pin<Int.ofNat (insOf c l.node).length) {K:Bool->Prop} (h:K true):ee c l K:=by
 unfold ee;refine⟨fun _=>⟨fun _=>⟨fun _=>?_,fun q=>?_⟩,fun q=>?_⟩,fun q=>?_⟩
 ·obtain⟨x,hx⟩:=av h1;refine⟨x,hx,?_⟩;rw[ch hx] at h3;rw[BX.2 h3];exact h
 ·have:ltI l.pin (Int.negSucc 0)=true:=by revert q;cases ltI l.pin (Int.negSucc 0) <;> simp
  have:l.pin<Int.negSucc 0:=BX.1 this;omega
 ·have:=bk.1 q;omega
 ·have:=wh.1 q;omega
theorem vV {c:Circ} (C:Cir c) {f:Flt} (F:StuckOk c f) {K:Nat->Prop} (h:K 0):faults_Check_wp c f K:=by
 unfold faults_Check_wp;refine zN C ⟨(fun q=>absurd rfl (fx.1 q)),fun _=>?_⟩;refine dM (a:=false) (fun G=>⟨fun q=>?_,fun _=>⟨fun q=>?_,fun _=>G2 F.node F.pin1 F.pin2 G⟩⟩) ⟨(fun q=>by cases q),fun _=>⟨fun q=>?_,fun _=>⟨fun q=>?_,fun _=>h⟩⟩⟩
 ·have:=aO.1 q;have:=F.model;omega
 ·have:=aO.1 q;have:=F.value;omega
 ·have:=rN.1 q;have:=F.model;omega
 ·exact absurd F.other (fx.1 q)
def ntF (f:Flt):Nat->Nat->Nat:=if f.line.pin<0 then nf f.line.node f.value else idN
def pnF (f:Flt):Nat->Nat->Nat->Nat:=if f.line.pin<0 then idP else lx f.line.node f.line.pin f.value
theorem sQ {a w:Nat} (h:w<=3):∀ i v,v<=3->nf a w i v<=3:=by intro i v hv;unfold nf;split <;> omega
theorem sK {a w:Nat}{pin:Int} (h:w<=3):∀ m j v,v<=3->lx a pin w m j v<=3:=by intro m j v hv;unfold lx;split <;> omega
theorem qI:∀ i v,v<=3->idN i v<=3:=fun _ _ h=>h
theorem rf:∀ m j v,v<=3->idP m j v<=3:=fun _ _ _ h=>h
theorem IU {f:Flt} (h:f.value<=1):∀ i v,v<=3->ntF f i v<=3:=by
 unfold ntF;split
 ·exact sQ (by omega)
 ·exact qI
theorem Iu {f:Flt} (h:f.value<=1):∀ m j v,v<=3->pnF f m j v<=3:=by
 unfold pnF;split
 ·exact rf
 ·exact sK (by omega)
def Gz (c:Circ) (p:Pat):List Nat:=sol c p idN idP
def vI (c:Circ) (p:Pat) (f:Flt):List Nat:=sol c p (ntF f) (pnF f)
def Con (a b:Nat):Prop:=a<=1/\b<=1/\a≠b
instance (a b:Nat):Decidable (Con a b):=by unfold Con;infer_instance
def vp (a b:List Nat):List Nat:=(List.range (min a.length b.length)).filter fun i=>decide (Con (a.getD i 0) (b.getD i 0))
theorem Ek {p:Nat->Bool}{i:Nat}:(List.range (i+1)).filter p=(List.range i).filter p++(if p i=true then [i] else []):=by
 rw[List.range_succ,List.filter_append];congr 1;rw[List.filter_cons]
 split <;> rfl
theorem HM {p:Nat->Bool}{i:Nat}:((List.range i).filter p).length<=i:=by
 have:=List.length_filter_le p (List.range i);rwa [List.length_range] at this
theorem kV {a b:List Nat}{i:Nat}:i∈vp a b↔i<a.length/\i<b.length/\Con (a.getD i 0) (b.getD i 0):=by
 unfold vp;rw[List.mem_filter,List.mem_range,decide_eq_true_eq,Nat.lt_min,and_assoc]
def wV (a b:Rsp):Bool:=ltN 0 ((vp a.out b.out).length+(vp a.next b.next).length)
def fb (c:Circ) (p:Pat) (f:Flt):Bool:=wV (Aj c idP (Gz c p)) (Aj c (pnF f) (vI c p f))
def dOf (c:Circ) (s:Nat):Nat:=(insOf c s).getD 0 0
theorem FH {c:Circ}{pn qn:Nat->Nat->Nat->Nat}{t u:List Nat}:wV (Aj c pn t) (Aj c qn u)=true↔(∃ o∈c.outs,Con (t.getD o 0) (u.getD o 0))\/∃ s∈ofN c [14],Con (min (pn s 0 (t.getD (dOf c s) 0)) 2) (min (qn s 0 (u.getD (dOf c s) 0)) 2):=by
 have key:∀ (l:List Nat) (f g:Nat->Nat),(vp (l.map f) (l.map g)).length≠0 ↔ ∃ o∈l,Con (f o) (g o):=by
  intro l f g;rw[Ne,List.length_eq_zero_iff];constructor
  ·intro h;obtain⟨i,hi⟩:=List.exists_mem_of_ne_nil _ h;obtain⟨h1,_,h3⟩:=kV.1 hi;rw[List.length_map] at h1;refine⟨l[i],List.getElem_mem h1,?_⟩;simpa[List.getD,h1] using h3
  ·rintro⟨o,hm,hc⟩ e;obtain⟨i,hi,rfl⟩:=List.getElem_of_mem hm;have:i∈vp (l.map f) (l.map g):=kV.2 ⟨by simpa using hi,by simpa using hi,by simpa[List.getD,hi] using hc⟩;rw[e] at this
   cases this
 unfold wV Aj;dsimp only;rw[aO,<- key,<- key (ofN c [14]) (fun s=>min (pn s 0 (t.getD (dOf c s) 0)) 2)];unfold dOf;omega
theorem xo {c:Circ}{p:Pat}{f:Flt}:fb c p f=true↔(∃ o∈c.outs,Con ((Gz c p).getD o 0) ((vI c p f).getD o 0))\/∃ s∈ofN c [14],Con (min ((Gz c p).getD (dOf c s) 0) 2) (min (pnF f s 0 ((vI c p f).getD (dOf c s) 0)) 2):=FH
theorem B3 (a:Nat):¬ Con a a:=fun h=>h.2.2 rfl
def bq (v:List Wd) (i:Nat):List Nat:=v.map (laneW · i)
theorem kL (v:List Wd) (i:Nat):(bq v i).length=v.length:=by simp[bq]
theorem eL {v:List Wd}{i k:Nat}{w:Wd} (h:v[k]?=some w):(bq v i).getD k 0=laneW w i:=by
 rw[List.getD,bq,List.getElem?_map,h];rfl
theorem Dj (v:List Wd) (i k:Nat) (w:Wd):bq (v.set k w) i=(bq v i).set k (laneW w i):=by
 unfold bq;rw[List.map_set]
theorem F6 (v:List Wd) (i k:Nat):(bq v i).getD k 0<=3:=by
 rw[List.getD,bq,List.getElem?_map]
 cases v[k]? with
 |none=>exact Nat.zero_le _
 |some w=>exact iZ w i
theorem zF {n:Nat}{ixs:List Nat}{A v0:List Wd}{K:List Wd->Prop} (_hn:n<=16) (_hix:ixs.length<=n) (nd:ixs.Nodup) (hl:A.length=ixs.length) (_hb:∀ f∈ixs,f<n) (hv0:v0.length=n)
  (h:∀ v:List Wd,v.length=n->(∀ (q f:Nat),ixs[q]?=some f->v[f]?=A[q]?)->(∀ (f:Nat),f ∉ ixs->v[f]?=v0[f]?)->K v) {body:(List Wd->Prop)->List Wd×Nat->(List Wd×Nat->Prop)->Prop}
  (step:∀ (k:List Wd->Prop) (v:List Wd) (i:Nat) (nx:List Wd×Nat->Prop),v.length=n->(∀ (f:Nat) (w:Wd),i<ixs.length->ixs[i]?=some f->A[i]?=some w->f<n->nx (v.set f w,i+1))->(ixs.length<=i->k v)->body k (v,i) nx):an (fun k=>aF (fun s nx=>body k s nx) (v0,0)) K:=by
 refine aA (fun s=>s.2<=ixs.length/\s.1.length=n/\(∀ (q f:Nat),q<s.2->ixs[q]?=some f->s.1[f]?=A[q]?)/\∀ (f:Nat),f ∉ ixs.take s.2->s.1[f]?=v0[f]?) (fun s=>ixs.length-s.2) (fun (v:List Wd)=>v.length=n/\(∀ (q f:Nat),ixs[q]?=some f->v[f]?=A[q]?)/\∀ (f:Nat),f ∉ ixs->v[f]?=v0[f]?) ?_ ⟨Nat.zero_le _,hv0,fun q f hq=>absurd hq (Nat.not_lt_zero _),fun f _=>rfl⟩ fun v hv=>h v hv.1 hv.2.1 hv.2.2;rintro k ⟨v,i⟩ nx ⟨hi,hvl,h1,h2⟩ hnx hk;dsimp only at hi hvl h1 h2;refine step k v i nx hvl (fun f w hlt hf hw hfn=>hnx _ ⟨hlt,by simp[hvl],fun q g hq hg=>?_,fun g hg=>?_⟩ (by dsimp only;omega)) fun hge=>hk _ ⟨hvl,fun q f hf=>h1 q f (by have:=ag hf;omega) hf,fun f hf=>h2 f fun m=>hf (List.mem_of_mem_take m)⟩
 ·dsimp only at hq ⊢;rw[List.getElem?_set];by_cases e:f=g
  ·subst e
   have e2:q=i:=by
    have a1:=yf nd hf;have a2:=yf nd hg;omega
   subst e2;rw[if_pos rfl,if_pos (by omega),hw]
  ·rw[if_neg e];refine h1 q g ?_ hg;by_cases e2:q=i
   ·subst e2;rw[hf] at hg;cases hg;exact absurd rfl e
   ·omega
 ·dsimp only at hg ⊢
  have e:f≠g:=by
   rintro rfl;refine hg ?_;rw[List.take_add_one,hf];simp
  rw[List.getElem?_set,if_neg e];refine h2 g fun m=>hg ?_;rw[List.take_add_one];exact List.mem_append_left _ m
structure EngOk (c:Circ) (x:Eng) (m:Nat) (nt:Nat->Nat->Nat->Nat) (pn:Nat->Nat->Nat->Nat->Nat):Prop where
 circ:x.circ=c
 order:OrdOk c x.order
 ins:x.ins=ofN c [0]
 state:x.state=ofN c [14]
 few:m<=64
 net:∀ i,i<m->∀ n w,laneW (x.net.F n w) i=nt i n (laneW w i)
 pin:∀ i,i<m->∀ n j w,laneW (x.pin.F n j w) i=pn i n j (laneW w i)
def oH (x:Eng) (v:List Wd) (m:Nat) (ins:List Nat):List Wd:=ins.mapIdx fun j k=>x.pin.F m j (v.getD k ⟨0,0⟩)
theorem lM {x:Eng}{v:List Wd}{m:Nat}{ins:List Nat}:(oH x v m ins).length=ins.length:=by simp[oH]
theorem ux {x:Eng}{v:List Wd}{m j k:Nat}{w:Wd}{ins:List Nat} (hj:ins[j]?=some k) (hw:v[k]?=some w):(oH x v m ins)[j]?=some (x.pin.F m j w):=by
 unfold oH;rw[List.getElem?_mapIdx,hj]
 show some (x.pin.F m j (v.getD k ⟨0,0⟩))=_
 rw[List.getD_eq_getElem?_getD,hw];rfl
theorem zz {c:Circ}{x:Eng}{M:Nat}{nt:Nat->Nat->Nat->Nat}{pn:Nat->Nat->Nat->Nat->Nat} (E:EngOk c x M nt pn) {v:List Wd}{m i:Nat} (hi:i<M) {y:Node} (hv:∀ k∈y.ins,k<v.length):(oH x v m y.ins).map (laneW · i)=dS (pn i) (bq v i) m y:=by
 apply List.ext_getElem?;intro j;rw[List.getElem?_map]
 cases hj:y.ins[j]? with
 |none =>
  have:=List.getElem?_eq_none_iff.1 hj;rw[List.getElem?_eq_none (by rw[lM];exact this),List.getElem?_eq_none (by rw[wD];exact this)];rfl
 |some k =>
  obtain⟨w,hw⟩:=av (hv k (List.mem_of_getElem? hj));rw[ux hj hw,xb hj,eL hw]
  show some (laneW (x.pin.F m j w) i)=_
  rw[E.pin i hi]
theorem vq {v:List Wd}{f n:Nat} (hv:v.length=n) (hf:f<n):∃ w,v[f]?=some w:=av (by omega)
theorem vm {k:Nat} (h:k<=14):combB k=decide (k≠0/\k≠14):=by
 unfold combB;rw[decide_eq_decide];omega
theorem B7 {c:Circ} (C:Cir c) {x:Eng}{M:Nat}{nt:Nat->Nat->Nat->Nat}{pn:Nat->Nat->Nat->Nat->Nat} (E:EngOk c x M nt pn) {p:Nat->Pat} (hp:∀ i,i<M->PatOk c (p i)) {A B:List Wd} (hA:A.length=(ofN c [0]).length) (hB:B.length=(ofN c [14]).length)
  (hAl:∀ i,i<M->∀ (q:Nat) (w:Wd),A[q]?=some w->laneW w i=(p i).inp.getD q 0) (hBl:∀ i,i<M->∀ (q:Nat) (w:Wd),B[q]?=some w->laneW w i=(p i).state.getD q 0) {K:List Wd×List Wd->Prop}
  (h:∀ nets seen:List Wd,nets.length=c.nodes.length->(∀ i,i<M->Sol c (p i) (nt i) (pn i) (bq nets i)) ->
   seen.length=c.outs.length+(ofN c [14]).length ->
   (∀ i,i<M->bq seen i=(c.outs.map fun o=>(bq nets i).getD o 0)++(ofN c [14]).map fun s=>pn i s 0 ((bq nets i).getD (dOf c s) 0))->K (nets,seen)):aK x A B K:=by
 have hlen:=C.len;have e1:=E.circ;have e3:=E.ins;have e4:=E.state;have ho:=E.order
 have hol:x.order.length=c.nodes.length:=by
  have:=ho.perm.length_eq;rwa [List.length_range] at this
 unfold aK;rw[e1,e3,e4];refine⟨by omega,by omega,?_⟩;refine zF (n:=c.nodes.length) (ixs:=ofN c [0]) (A:=A) hlen (gT c _) (nK c _) hA (fun f hf=>(gI.1 hf).1) (by simp) (fun v1 l1 a1 b1=>?_) (fun k v i nx hv g1 g2=>⟨fun q=>?_,fun q=>g2 (bk.1 q)⟩);rotate_left
 ·have q:i<(ofN c [0]).length:=aO.1 q;have:=gT c [0];obtain⟨f,hf⟩:=av q;obtain⟨w,hw⟩:=av (show i<A.length by omega);have hfn:=(gI.1 (List.mem_of_getElem? hf)).1;obtain⟨u,hu⟩:=vq hv hfn;exact⟨f,hf,w,hw,hfn,u,hu,by omega,g1 f w q hf hw hfn⟩
 refine zF (n:=c.nodes.length) (ixs:=ofN c [14]) (A:=B) hlen (gT c _) (nK c _) hB (fun f hf=>(gI.1 hf).1) l1 (fun v2 l2 a2 b2=>?_) (fun k v i nx hv g1 g2=>⟨fun q=>?_,fun q=>g2 (bk.1 q)⟩);rotate_left
 ·have q:i<(ofN c [14]).length:=aO.1 q;have:=gT c [14];obtain⟨f,hf⟩:=av q;obtain⟨w,hw⟩:=av (show i<B.length by omega);have hfn:=(gI.1 (List.mem_of_getElem? hf)).1;obtain⟨u,hu⟩:=vq hv hfn;exact⟨f,hf,w,hw,hfn,u,hu,by omega,g1 f w q hf hw hfn⟩
 have base:∀ i,i<M->RunS c (p i) (nt i) (pn i) x.order (bq v2 i) 0:=by
  intro i hi;refine⟨by rw[kL,l2],fun j _ _ hj=>absurd hj (Nat.not_lt_zero _),fun j m y _ _ hy hc=>?_,F6 v2 i⟩;refine (Ge C (hp i hi) (t1:=bq v1 i) (t2:=bq v2 i) (by rw[kL,l2]) (fun j f hf=>?_) (fun j f hf=>?_) (fun f hf=>?_) m y hy hc).1
  ·obtain⟨w,hw⟩:=av (show j<A.length by have:=ag hf;omega);rw[eL ((a1 j f hf).trans hw),hAl i hi j w hw]
  ·obtain⟨w,hw⟩:=av (show j<B.length by have:=ag hf;omega);rw[eL ((a2 j f hf).trans hw),hBl i hi j w hw]
  ·unfold bq;rw[List.getD,List.getD,List.getElem?_map,List.getElem?_map,b2 f hf]
 refine aA (fun s=>s.2<=x.order.length/\s.1.length=c.nodes.length/\∀ i,i<M->RunS c (p i) (nt i) (pn i) x.order (bq s.1 i) s.2) (fun s=>x.order.length-s.2) (fun v=>v.length=c.nodes.length/\∀ i,i<M->Sol c (p i) (nt i) (pn i) (bq v i)) ?_ ⟨Nat.zero_le _,l2,base⟩ ?_
 ·rintro k ⟨v,j⟩ nx ⟨hj,hvl,T⟩ hnx hk;dsimp only at hj hvl T;refine⟨fun q=>?_,fun q=>hk _ ⟨hvl,fun i hi=>?_⟩⟩;rotate_left
  ·have q:x.order.length<=j:=bk.1 q
   have e:j=x.order.length:=by omega
   subst e;exact (T i hi).sol ho
  have q:j<x.order.length:=aO.1 q;obtain⟨m,hm⟩:=av q;have hml:m<c.nodes.length:=List.mem_range.1 (ho.perm.mem_iff.1 (List.mem_of_getElem? hm));obtain⟨y,hy⟩:=av hml;have g:=C.good.node m y hy;have hfew:=g.few;have hk14:=C.kinds m y hy;refine⟨m,hm,dG (fun u:List Wd=>u.length=c.nodes.length/\(∀ i,i<M->(bq u i).getD m 0=baseV c (p i) (pn i) (bq v i) m y)/\∀ f,f≠m->u[f]?=v[f]?) (fun k2 hk2=>⟨y,hy,?_⟩) ?_⟩
  ·refine dG (fun b=>b=combB y.kind) (fun k3 hk3=>⟨fun q0=>hk3 _ ?_,fun q0=>hk3 _ ?_⟩) fun b hb=>⟨fun q1=>?_,fun q1=>?_⟩
   ·have q0:=fx.1 q0;rw[vm hk14,Bool.eq_iff_iff,fx];simp[q0]
   ·have q0:=yC.1 q0;rw[vm hk14];simp[q0]
   ·have hc:combB y.kind=true:=by rw[<- hb,q1]
    have hc2:=of_decide_eq_true hc;refine dG (fun l=>l=oH x v m y.ins) (fun k3 hk3=>⟨y,hy,?_⟩) ?_
    ·refine bo (fun s=>s.2<=y.ins.length/\s.1=(oH x v m y.ins).take s.2) (fun s=>y.ins.length-s.2) ?_ ⟨Nat.zero_le _,rfl⟩;rintro⟨l,j2⟩ nx2 ⟨hj2,hl2⟩ hnx2;dsimp only at hj2 hl2;refine⟨fun q2=>?_,fun q2=>hk3 _ ?_⟩
     ·have q2:j2<y.ins.length:=aO.1 q2;obtain⟨f,hf⟩:=av q2;have hfn:=g.ins f (List.mem_of_getElem? hf);obtain⟨w,hw⟩:=vq hvl hfn;refine⟨f,hf,hfn,w,hw,?_,by omega,hnx2 _ ⟨q2,?_⟩ (by dsimp only;omega)⟩
      ·rw[hl2,List.length_take,List.length_singleton];omega
      ·dsimp only;rw[hl2,List.take_add_one,ux hf hw];rfl
     ·have q2:y.ins.length<=j2:=bk.1 q2;rw[hl2,List.take_of_length_le (by rw[lM];exact q2)]
    ·rintro l rfl;refine FD hc2.1 hc2.2 (by rw[lM];exact g.arity) (by rw[lM];omega) fun r hr=>?_;obtain⟨w,hw⟩:=vq hvl hml;refine⟨hml,w,hw,hk2 _ ⟨by simp[hvl],fun i hi=>?_,fun f hf=>by rw[List.getElem?_set,if_neg (Ne.symm hf)]⟩⟩
     have:(v.set m r)[m]?=some r:=by rw[List.getElem?_set,if_pos rfl,if_pos (by omega)]
     have h64:=E.few;rw[eL this,hr i (by omega),zz E hi (fun k m=>by rw[hvl];exact g.ins k m)];unfold baseV;rw[if_pos hc]
   ·have hc:combB y.kind=false:=by rw[<- hb,q1]
    refine hk2 _ ⟨hvl,fun i hi=>?_,fun f _=>rfl⟩;rw[(T i hi).todo j m y (Nat.le_refl _) hm hy hc];unfold baseV;rw[if_neg (by rw[hc];decide)]
  ·rintro u ⟨hul,hub,hue⟩;obtain⟨w,hw⟩:=vq hul hml;refine⟨hml,w,hw,hml,w,hw,by omega,hnx (u.set m (x.net.F m w),j+1) ⟨q,by simp[hul],fun i hi=>?_⟩ (by dsimp only;omega)⟩;dsimp only
   have hwl:laneW w i=baseV c (p i) (pn i) (bq v i) m y:=by rw[<- eL hw];exact hub i hi
   have hle:nt i m (baseV c (p i) (pn i) (bq v i) m y)<=3:=by rw[<- hwl,<- E.net i hi];exact iZ _ _
   have S:=(T i hi).step ho hm hy hle
   have e:bq (u.set m (x.net.F m w)) i=(bq v i).set m (nt i m (baseV c (p i) (pn i) (bq v i) m y)):=by
    rw[Dj,E.net i hi,hwl];apply List.ext_getElem?;intro f;rw[List.getElem?_set,List.getElem?_set,kL,kL,hul,hvl];by_cases ef:m=f
    ·rw[if_pos ef,if_pos ef]
    ·rw[if_neg ef,if_neg ef];unfold bq;rw[List.getElem?_map,List.getElem?_map,hue f (Ne.symm ef)]
   rw[e];exact S
 ·rintro v ⟨hvl,hS⟩;have hoo:=C.good.outsLen;refine aA (fun s=>s.2<=c.outs.length/\s.1=(c.outs.map fun o=>v.getD o ⟨0,0⟩).take s.2) (fun s=>c.outs.length-s.2) (fun l=>l=c.outs.map fun o=>v.getD o ⟨0,0⟩) ?_ ⟨Nat.zero_le _,rfl⟩ ?_
  ·rintro k ⟨l,j⟩ nx ⟨hj,hl⟩ hnx hk;dsimp only at hj hl;refine⟨fun q=>?_,fun q=>hk _ ?_⟩
   ·have q:j<c.outs.length:=aO.1 q;obtain⟨o,ho2⟩:=av q;have hon:=C.good.outs o (List.mem_of_getElem? ho2);obtain⟨w,hw⟩:=vq hvl hon;refine⟨o,ho2,hon,w,hw,?_,by omega,hnx _ ⟨q,?_⟩ (by dsimp only;omega)⟩
    ·rw[hl,List.length_take,List.length_singleton];omega
    ·dsimp only;rw[hl,List.take_add_one,List.getElem?_map,ho2]
     show _=_++[v.getD o ⟨0,0⟩]
     rw[List.getD_eq_getElem?_getD,hw];rfl
   ·have q:c.outs.length<=j:=bk.1 q;rw[hl,List.take_of_length_le (by rw[List.length_map];exact q)]
  ·rintro l rfl;have hst:=gT c [14]
   have hg:∀ s,s∈ofN c [14]->∃ y d w,c.nodes[s]?=some y/\y.ins=[d]/\dOf c s=d/\v[d]?=some w:=by
    intro s hs;obtain⟨h1,h2⟩:=gI.1 hs;obtain⟨y,hy⟩:=av h1;have g:=C.good.node s y hy;have hk:=ia hy;have ha:y.ins.length=1:=vZ (by have:=g.arity;rwa [<- hk,h2] at this);obtain⟨d,hd⟩:=List.length_eq_one_iff.1 ha;obtain⟨w,hw⟩:=vq hvl (g.ins d (by rw[hd];exact .head _));refine⟨y,d,w,hy,hd,?_,hw⟩;unfold dOf;rw[tC hy,hd];rfl
   refine aA (fun s=>s.2<=(ofN c [14]).length/\s.1=(c.outs.map fun o=>v.getD o ⟨0,0⟩)++((ofN c [14]).map fun s=>x.pin.F s 0 (v.getD (dOf c s) ⟨0,0⟩)).take s.2) (fun s=>(ofN c [14]).length-s.2) (fun l=>l=(c.outs.map fun o=>v.getD o ⟨0,0⟩)++(ofN c [14]).map fun s=>x.pin.F s 0 (v.getD (dOf c s) ⟨0,0⟩)) ?_ ⟨Nat.zero_le _,by simp⟩ ?_
   ·rintro k ⟨l,j⟩ nx ⟨hj,hl⟩ hnx hk;dsimp only at hj hl;refine⟨fun q=>?_,fun q=>hk _ ?_⟩
    ·have q:j<(ofN c [14]).length:=aO.1 q;obtain⟨s,hs⟩:=av q;obtain⟨y,d,w,hy,hd,hdo,hw⟩:=hg s (List.mem_of_getElem? hs)
     have hdn:d<c.nodes.length:=by have:=ag hw;omega
     refine⟨s,hs,dG (fun l2=>l2=[x.pin.F s 0 w]) (fun k3 hk3=>⟨y,hy,?_⟩) ?_⟩
     ·rw[hd];refine bo (fun s2=>s2.2<=1/\s2.1=([x.pin.F s 0 w]:List Wd).take s2.2) (fun s2=>1-s2.2) ?_ ⟨Nat.zero_le _,rfl⟩;rintro⟨l2,j2⟩ nx2 ⟨hj2,hl2⟩ hnx2;dsimp only at hj2 hl2;refine⟨fun q2=>?_,fun q2=>hk3 _ ?_⟩
      ·have q2:j2<1:=aO.1 q2
       obtain rfl:j2=0:=by omega
       refine⟨d,rfl,hdn,w,hw,?_,by decide,hnx2 _ ⟨Nat.le_refl _,?_⟩ (by dsimp only;omega)⟩
       ·rw[hl2];exact (by decide:(0+1)*16<=2 ^ 47)
       ·dsimp only;rw[hl2];rfl
      ·have q2:1<=j2:=bk.1 q2
       obtain rfl:j2=1:=by omega
       rw[hl2];rfl
     ·rintro l2 rfl;refine⟨_,rfl,?_,by omega,hnx _ ⟨q,?_⟩ (by dsimp only;omega)⟩
      ·rw[hl,List.length_append,List.length_take,List.length_map,List.length_singleton];omega
      ·dsimp only;rw[hl,List.take_add_one,List.getElem?_map,hs,List.append_assoc]
       show _=_++(_++[x.pin.F s 0 (v.getD (dOf c s) ⟨0,0⟩)])
       rw[hdo,List.getD_eq_getElem?_getD,hw];rfl
    ·have q:(ofN c [14]).length<=j:=bk.1 q;rw[hl,List.take_of_length_le (by rw[List.length_map];exact q)]
   ·rintro l rfl;refine⟨hvl.symm,h v _ hvl hS (by simp) fun i hi=>?_⟩;unfold bq;rw[List.map_append,List.map_map,List.map_map];congr 1
    ·refine List.map_congr_left fun o m=>?_;obtain⟨w,hw⟩:=vq hvl (C.good.outs o m)
     show laneW (v.getD o ⟨0,0⟩) i=(bq v i).getD o 0
     rw[eL hw,List.getD_eq_getElem?_getD,hw];rfl
    ·refine List.map_congr_left fun s m=>?_;obtain⟨y,d,w,hy,hd,hdo,hw⟩:=hg s m
     show laneW (x.pin.F s 0 (v.getD (dOf c s) ⟨0,0⟩)) i=pn i s 0 ((bq v i).getD (dOf c s) 0)
     rw[E.pin i hi,hdo,eL hw,List.getD_eq_getElem?_getD,hw];rfl
theorem zv {w:Wd}{lane v:Nat}{K:Wd->Prop} (hl:lane<64) (hv:v<=3) (h:∀ r:Wd,(∀ i,i<64->laneW r i=if i=lane then v else laneW w i)->K r):cP w lane v K:=by
 refine⟨by omega,hv,h _ fun i hi=>?_⟩;have hf:=fQ hv hi;unfold laneW at hf ⊢;rw[cU hi,cU hi,cB hi,cB hi,cm hi,cm hi,CN hi];by_cases e:i=lane
 ·rw[decide_eq_true e,if_pos e];simpa using hf
 ·rw[decide_eq_false e,if_neg e];simp
theorem yS {l:List Pat}{n:Nat}{K:List Wd->Prop} (hn:n<=16) (hl:l.length<=64) (hp:∀ p∈l,p.inp.length=n/\∀ v∈p.inp,v<=3) (h:∀ v:List Wd,v.length=n->(∀ (i q:Nat) (p:Pat) (w:Wd),l[i]?=some p->v[q]?=some w->laneW w i=p.inp.getD q 0)->K v):eP l n K:=by
 refine⟨by omega,by omega,?_⟩;refine aA (fun s=>s.2<=n/\s.1.length=n/\∀ (i q:Nat) (p:Pat) (w:Wd),q<s.2->l[i]?=some p->s.1[q]?=some w->laneW w i=p.inp.getD q 0) (fun s=>n-s.2) (fun v=>v.length=n/\∀ (i q:Nat) (p:Pat) (w:Wd),l[i]?=some p->v[q]?=some w->laneW w i=p.inp.getD q 0) ?_ ⟨Nat.zero_le _,by simp,fun i q p w hq=>absurd hq (Nat.not_lt_zero _)⟩ fun v hv=>⟨hv.1.symm,h v hv.1 hv.2⟩;rintro k ⟨v,q⟩ nx ⟨hq,hvl,hI⟩ hnx hk;dsimp only at hq hvl hI;refine⟨fun c=>?_,fun c=>hk _ ⟨hvl,fun i q' p w h1 h2=>hI i q' p w (by have:=ag h2;have:=bk.1 c;omega) h1 h2⟩⟩;have c:q<n:=aO.1 c;refine aA (fun s=>s.2<=l.length/\s.1.length=n/\(∀ f,f≠q->s.1[f]?=v[f]?)/\∀ (i:Nat) (p:Pat) (w:Wd),i<s.2->l[i]?=some p->s.1[q]?=some w->laneW w i=p.inp.getD q 0) (fun s=>l.length-s.2) (fun u=>u.length=n/\(∀ f,f≠q->u[f]?=v[f]?)/\∀ (i:Nat) (p:Pat) (w:Wd),l[i]?=some p->u[q]?=some w->laneW w i=p.inp.getD q 0) ?_ ⟨Nat.zero_le _,hvl,fun f _=>rfl,fun i p w hi=>absurd hi (Nat.not_lt_zero _)⟩ ?_
 ·rintro k2 ⟨u,i⟩ nx2 ⟨hi,hul,hue,hu⟩ hnx2 hk2;dsimp only at hi hul hue hu;refine⟨fun c2=>?_,fun c2=>hk2 _ ⟨hul,hue,fun i' p w h1 h2=>hu i' p w (by have:=ag h1;have:=bk.1 c2;omega) h1 h2⟩⟩;have c2:i<l.length:=aO.1 c2;obtain⟨p,hpi⟩:=av c2;obtain⟨hpl,hpv⟩:=hp p (List.mem_of_getElem? hpi);obtain⟨x,hx⟩:=av (show q<p.inp.length by omega);obtain⟨w,hw⟩:=vq hul c;refine⟨p,hpi,c,w,hw,x,hx,zv (by omega) (hpv x (List.mem_of_getElem? hx)) fun r hr=>⟨c,w,hw,by omega,hnx2 _ ⟨c2,by simp[hul],fun f hf=>by rw[List.getElem?_set,if_neg (Ne.symm hf)];exact hue f hf,fun i' p' w' h1 h2 h3=>?_⟩ (by dsimp only;omega)⟩⟩;dsimp only at h1 h3;rw[List.getElem?_set,if_pos rfl,if_pos (by omega)] at h3
  cases h3
  rw[hr i' (by omega)];by_cases e:i'=i
  ·subst e;rw[hpi] at h2;cases h2;rw[if_pos rfl,List.getD,hx];rfl
  ·rw[if_neg e];exact hu i' p' w (by omega) h2 hw
 ·rintro u ⟨hul,hue,hu⟩;refine⟨by omega,hnx _ ⟨c,hul,fun i q' p w h1 h2 h3=>?_⟩ (by dsimp only;omega)⟩;dsimp only at h1 h3;by_cases e:q'=q
  ·subst e;exact hu i p w h2 h3
  ·exact hI i q' p w (by omega) h2 ((hue q' e).symm.trans h3)
theorem Ai {l:List Pat}{n:Nat}{K:List Wd->Prop} (hn:n<=16) (hl:l.length<=64) (hp:∀ p∈l,p.state.length=n/\∀ v∈p.state,v<=3) (h:∀ v:List Wd,v.length=n->(∀ (i q:Nat) (p:Pat) (w:Wd),l[i]?=some p->v[q]?=some w->laneW w i=p.state.getD q 0)->K v):eJ l n K:=by
 refine⟨by omega,by omega,?_⟩;refine aA (fun s=>s.2<=n/\s.1.length=n/\∀ (i q:Nat) (p:Pat) (w:Wd),q<s.2->l[i]?=some p->s.1[q]?=some w->laneW w i=p.state.getD q 0) (fun s=>n-s.2) (fun v=>v.length=n/\∀ (i q:Nat) (p:Pat) (w:Wd),l[i]?=some p->v[q]?=some w->laneW w i=p.state.getD q 0) ?_ ⟨Nat.zero_le _,by simp,fun i q p w hq=>absurd hq (Nat.not_lt_zero _)⟩ fun v hv=>⟨hv.1.symm,h v hv.1 hv.2⟩;rintro k ⟨v,q⟩ nx ⟨hq,hvl,hI⟩ hnx hk;dsimp only at hq hvl hI;refine⟨fun c=>?_,fun c=>hk _ ⟨hvl,fun i q' p w h1 h2=>hI i q' p w (by have:=ag h2;have:=bk.1 c;omega) h1 h2⟩⟩;have c:q<n:=aO.1 c;refine aA (fun s=>s.2<=l.length/\s.1.length=n/\(∀ f,f≠q->s.1[f]?=v[f]?)/\∀ (i:Nat) (p:Pat) (w:Wd),i<s.2->l[i]?=some p->s.1[q]?=some w->laneW w i=p.state.getD q 0) (fun s=>l.length-s.2) (fun u=>u.length=n/\(∀ f,f≠q->u[f]?=v[f]?)/\∀ (i:Nat) (p:Pat) (w:Wd),l[i]?=some p->u[q]?=some w->laneW w i=p.state.getD q 0) ?_ ⟨Nat.zero_le _,hvl,fun f _=>rfl,fun i p w hi=>absurd hi (Nat.not_lt_zero _)⟩ ?_
 ·rintro k2 ⟨u,i⟩ nx2 ⟨hi,hul,hue,hu⟩ hnx2 hk2;dsimp only at hi hul hue hu;refine⟨fun c2=>?_,fun c2=>hk2 _ ⟨hul,hue,fun i' p w h1 h2=>hu i' p w (by have:=ag h1;have:=bk.1 c2;omega) h1 h2⟩⟩;have c2:i<l.length:=aO.1 c2;obtain⟨p,hpi⟩:=av c2;obtain⟨hpl,hpv⟩:=hp p (List.mem_of_getElem? hpi);obtain⟨x,hx⟩:=av (show q<p.state.length by omega);obtain⟨w,hw⟩:=vq hul c;refine⟨p,hpi,c,w,hw,x,hx,zv (by omega) (hpv x (List.mem_of_getElem? hx)) fun r hr=>⟨c,w,hw,by omega,hnx2 _ ⟨c2,by simp[hul],fun f hf=>by rw[List.getElem?_set,if_neg (Ne.symm hf)];exact hue f hf,fun i' p' w' h1 h2 h3=>?_⟩ (by dsimp only;omega)⟩⟩;dsimp only at h1 h3;rw[List.getElem?_set,if_pos rfl,if_pos (by omega)] at h3
  cases h3
  rw[hr i' (by omega)];by_cases e:i'=i
  ·subst e;rw[hpi] at h2;cases h2;rw[if_pos rfl,List.getD,hx];rfl
  ·rw[if_neg e];exact hu i' p' w (by omega) h2 hw
 ·rintro u ⟨hul,hue,hu⟩;refine⟨by omega,hnx _ ⟨c,hul,fun i q' p w h1 h2 h3=>?_⟩ (by dsimp only;omega)⟩;dsimp only at h1 h3;by_cases e:q'=q
  ·subst e;exact hu i p w h2 h3
  ·exact hI i q' p w (by omega) h2 ((hue q' e).symm.trans h3)
def AL (a b:List Nat):Bool:=(List.range a.length).any fun q=>decide (Con (a.getD q 0) (b.getD q 0))
theorem EJ {x y:Wd}{i:Nat} (hi:i<64) :
  (bM (aU (aB (aU x.one x.zero) y.zero) y.one) (aU (aB (aU x.zero x.one) y.one) y.zero)).testBit i=decide (Con (laneW x i) (laneW y i)):=by
 rw[cU hi,cB hi,cB hi,cm hi,cm hi,cB hi,cB hi];unfold laneW Con
 cases x.one.testBit i <;> cases x.zero.testBit i <;> cases y.one.testBit i <;> cases y.zero.testBit i <;> rfl
theorem yA {a b:List Wd}{K:Nat->Prop} (hl:a.length=b.length) (ha:a.length<2 ^ 60) (h:∀ r:Nat,(∀ i,i<64->r.testBit i=AL (bq a i) (bq b i))->K r):bG a b K:=by
 refine aA (fun s=>s.2<=a.length/\∀ i,i<64->s.1.testBit i=(List.range s.2).any fun q=>decide (Con ((bq a i).getD q 0) ((bq b i).getD q 0))) (fun s=>a.length-s.2) (fun r=>∀ i,i<64->r.testBit i=AL (bq a i) (bq b i)) ?_ ⟨Nat.zero_le _,fun i _=>Nat.zero_testBit i⟩ fun r hr=>h r hr;rintro k ⟨r,j⟩ nx ⟨hj,hI⟩ hnx hk;dsimp only at hj hI;refine⟨fun q=>?_,fun q=>hk _ fun i hi=>?_⟩
 ·have q:j<a.length:=aO.1 q;obtain⟨x,hx⟩:=av q;obtain⟨y,hy⟩:=av (show j<b.length by omega);refine⟨x,hx,y,hy,by omega,hnx _ ⟨q,fun i hi=>?_⟩ (by dsimp only;omega)⟩;dsimp only;rw[cU hi,hI i hi,EJ hi,List.range_succ,List.any_append,eL hx |>.symm,eL hy |>.symm];simp
 ·have q:a.length<=j:=bk.1 q
  obtain rfl:j=a.length:=by omega
  rw[hI i hi];unfold AL;rw[kL]
theorem D3 {c:Circ}{o:List Nat} (ho:OrdOk c o) {M:Nat} (hM:M<=64):EngOk c ⟨c,o,ofN c [0],ofN c [14],G4,GM⟩ M (fun _=>idN) (fun _=>idP) :=
 ⟨rfl,ho,rfl,rfl,hM,fun _ _ _ _=>rfl,fun _ _ _ _ _=>rfl⟩
theorem G3 {c:Circ}{o:List Nat} (ho:OrdOk c o) {M:Nat} (hM:M<=64) {f:Flt} (F:StuckOk c f) (hp:¬ f.line.pin<0):EngOk c ⟨c,o,ofN c [0],ofN c [14],G4,H7 f (kv f.value)⟩ M (fun _=>ntF f) (fun _=>pnF f):=by
 refine⟨rfl,ho,rfl,rfl,hM,fun i _ n w=>?_,fun i hi n j w=>?_⟩
 ·unfold ntF;rw[if_neg hp];rfl
 ·unfold pnF;rw[if_neg hp]
  show laneW (F3 f (kv f.value) n j w) i=lx f.line.node f.line.pin f.value n j (laneW w i)
  unfold F3 lx;by_cases e:n=f.line.node/\Int.ofNat j=f.line.pin
  ·rw[if_pos e,if_pos e];exact fQ (by have:=F.value;omega) (by omega)
  ·rw[if_neg e,if_neg e]
theorem HQ {c:Circ}{o:List Nat} (ho:OrdOk c o) {M:Nat} (hM:M<=64) {f:Flt} (F:StuckOk c f) (hp:f.line.pin<0):EngOk c ⟨c,o,ofN c [0],ofN c [14],Io f (kv f.value),GM⟩ M (fun _=>ntF f) (fun _=>pnF f):=by
 refine⟨rfl,ho,rfl,rfl,hM,fun i hi n w=>?_,fun i _ n j w=>?_⟩
 ·unfold ntF;rw[if_pos hp]
  show laneW (ES f (kv f.value) n w) i=nf f.line.node f.value n (laneW w i)
  unfold ES nf;have hm:=F.model;by_cases e:n=f.line.node
  ·rw[if_pos (.inl e),if_pos e];exact fQ (by have:=F.value;omega) (by omega)
  ·rw[if_neg e,if_neg];rintro (q|q)
   ·exact e q
   ·omega
 ·unfold pnF;rw[if_pos hp];rfl
theorem Gg {c:Circ}{o:List Nat} (ho:OrdOk c o) {M:Nat} (hM:M<=64) {f:Flt} (F:StuckOk c f) {good:List Wd}{K:Eng->Prop} (h:∀ x:Eng,EngOk c x M (fun _=>ntF f) (fun _=>pnF f)->K x):bn ⟨c,o,ofN c [0],ofN c [14],G4,GM⟩ f good K:=by
 refine⟨by have:=F.value;omega,dG (fun _=>True) (fun k hk=>⟨fun q=>absurd F.model (fx.1 q),fun _=>hk _ trivial⟩) fun _ _=>⟨fun q=>?_,fun q=>?_⟩⟩
 ·refine h _ (G3 ho hM F ?_)
  have:ltI f.line.pin (Int.ofNat 0)=false:=by revert q;cases ltI f.line.pin (Int.ofNat 0) <;> simp
  have:=sn.1 this;simp only[Int.ofNat_eq_natCast] at this;omega
 ·refine h _ (HQ ho hM F ?_)
  have:ltI f.line.pin (Int.ofNat 0)=true:=by revert q;cases ltI f.line.pin (Int.ofNat 0) <;> simp
  have:=BX.1 this;simp only[Int.ofNat_eq_natCast] at this;omega
theorem Ck {a b:Nat}:Con (min a 2) (min b 2)↔Con a b:=by unfold Con;omega
theorem Eg {a b:List Nat}:AL a b=true ↔ ∃ q,q<a.length/\Con (a.getD q 0) (b.getD q 0):=by
 unfold AL;rw[List.any_eq_true];constructor
 ·rintro⟨q,hq,hc⟩;exact⟨q,List.mem_range.1 hq,of_decide_eq_true hc⟩
 ·rintro⟨q,hq,hc⟩;exact⟨q,List.mem_range.2 hq,decide_eq_true hc⟩
theorem Du {a b:Rsp}:wV a b=true↔(∃ q,q∈vp a.out b.out)\/∃ q,q∈vp a.next b.next:=by
 unfold wV;rw[aO];constructor
 ·intro h;by_cases c:0<(vp a.out b.out).length
  ·exact .inl ⟨_,List.getElem_mem c⟩
  ·exact .inr ⟨_,List.getElem_mem (show 0<(vp a.next b.next).length by omega)⟩
 ·rintro (⟨q,hq⟩|⟨q,hq⟩)
  ·have:=List.length_pos_of_mem hq;omega
  ·have:=List.length_pos_of_mem hq;omega
theorem kO {a b:List Nat}{q:Nat}:(a++b).getD q 0=if q<a.length then a.getD q 0 else b.getD (q-a.length) 0:=by
 rw[List.getD,List.getD,List.getD];split
 ·rename_i h;rw[List.getElem?_append_left h]
 ·rename_i h;rw[List.getElem?_append_right (by omega)]
theorem getD_min (l:List Nat) (q:Nat):(l.map fun v=>min v 2).getD q 0=min (l.getD q 0) 2:=by
 rw[List.getD,List.getD,List.getElem?_map]
 cases l[q]? <;> simp
theorem ED {o1 o2 s1 s2:List Nat} (ho:o1.length=o2.length) (hs:s1.length=s2.length):AL (o1++s1) (o2++s2)=wV ⟨o1,s1.map fun v=>min v 2⟩ ⟨o2,s2.map fun v=>min v 2⟩:=by
 rw[Bool.eq_iff_iff,Eg,Du];constructor
 ·rintro⟨q,hq,hc⟩;rw[List.length_append] at hq;rw[kO,kO] at hc;by_cases c:q<o1.length
  ·rw[if_pos c,if_pos (by omega)] at hc;exact .inl ⟨q,kV.2 ⟨c,(by show q<o2.length;omega),hc⟩⟩
  ·rw[if_neg c,if_neg (by omega),<- ho] at hc;refine .inr ⟨q-o1.length,kV.2 ⟨?_,?_,?_⟩⟩
   ·rw[List.length_map];omega
   ·rw[List.length_map];omega
   ·dsimp only;rw[getD_min,getD_min];exact Ck.2 hc
 ·rintro (⟨q,hq⟩|⟨q,hq⟩)
  ·obtain⟨h1,h2,h3⟩:=kV.1 hq;dsimp only at h1 h2 h3;refine⟨q,by rw[List.length_append];omega,?_⟩;rw[kO,kO,if_pos h1,if_pos h2];exact h3
  ·obtain⟨h1,h2,h3⟩:=kV.1 hq;dsimp only at h1 h2 h3;rw[List.length_map] at h1 h2;rw[getD_min,getD_min] at h3;refine⟨o1.length+q,by rw[List.length_append];omega,?_⟩;rw[kO,kO,if_neg (by omega),if_neg (by omega),<- ho,Nat.add_sub_cancel_left];exact Ck.1 h3
theorem F1 {c:Circ} (C:Cir c) {p:Pat} (hp:PatOk c p) {f:Flt} (F:StuckOk c f) {t u:List Nat} (T:Sol c p idN idP t) (U:Sol c p (ntF f) (pnF f) u) :
  AL ((c.outs.map fun o=>t.getD o 0)++(ofN c [14]).map fun s=>idP s 0 (t.getD (dOf c s) 0)) ((c.outs.map fun o=>u.getD o 0)++(ofN c [14]).map fun s=>pnF f s 0 (u.getD (dOf c s) 0))=fb c p f:=by
 have e1:t=Gz c p:=T.eq C (oG C hp qI rf);have e2:u=vI c p f:=U.eq C (oG C hp (IU F.value) (Iu F.value));rw[ED (by simp) (by simp),e1,e2];unfold fb Aj;rw[List.map_map,List.map_map];rfl
def pD (c:Circ) (ts:List Pat) (f:Flt) (v:Nat):Prop:=∀ i,i<64->v.testBit i=(decide (i<ts.length)&&fb c (ts.getD i ⟨[],[]⟩) f)
theorem AZ {c:Circ} (C:Cir c) {l:List Flt}{ts:List Pat} (hts:∀ p∈ts,PatOk c p) (hl:∀ f∈l,StuckOk c f) (h64:ts.length<=64) {G:Nat->Nat->Prop} (hG:∀ (k:Nat) (f:Flt) (v:Nat),l[k]?=some f->pD c ts f v->G k v) :
  cu c fun x=>eP ts x.ins.length fun pi=>eJ ts x.state.length fun ps=>aK x pi ps fun gd=>∀ (k:Nat) (f:Flt),l[k]?=some f->bn x f gd.1 fun y=>aK y pi ps fun bd=>bG gd.2 bd.2 fun h=>G k (wH ts.length h):=by
 have hlen:=C.len;have hi:=gT c [0];have hs:=gT c [14]
 have hp:∀ i,i<ts.length->PatOk c (ts.getD i ⟨[],[]⟩):=fun i h=>by
  rw[List.getD,List.getElem?_eq_getElem h];exact hts _ (List.getElem_mem h)
 refine zh C.good fun o ho=>qx (by omega) (rD (by omega) ?_);dsimp only;refine yS (by omega) h64 (fun p m=>⟨(hts p m).inp,(hts p m).inpv⟩) fun pi hpi1 hpi2=>Ai (by omega) h64 (fun p m=>⟨(hts p m).state,(hts p m).statev⟩) fun ps hps1 hps2=>?_
 have gl:∀ i,i<ts.length->ts[i]?=some (ts.getD i ⟨[],[]⟩):=fun i h=>by rw[List.getD,List.getElem?_eq_getElem h];rfl
 refine B7 C (D3 ho h64) hp hpi1 hps1 (fun i hi q w hw=>hpi2 i q _ w (gl i hi) hw) (fun i hi q w hw=>hps2 i q _ w (gl i hi) hw) fun nets seen hn hS hsl hseen k f hf=>?_;have F:=hl f (List.mem_of_getElem? hf);refine Gg ho h64 F fun y E=>?_;refine B7 C E hp hpi1 hps1 (fun i hi q w hw=>hpi2 i q _ w (gl i hi) hw) (fun i hi q w hw=>hps2 i q _ w (gl i hi) hw) fun nets2 seen2 hn2 hS2 hsl2 hseen2=>?_;have hol:=C.good.outsLen;refine yA (by dsimp only;omega) (by dsimp only;omega) fun r hr=>hG k f _ hf fun i hi64=>?_
 have key:i<ts.length->r.testBit i=fb c (ts.getD i ⟨[],[]⟩) f:=fun h=>by
  rw[hr i hi64];dsimp only;rw[hseen i h,hseen2 i h];exact F1 C (hp i h) F (hS i h) (hS2 i h)
 unfold wH;by_cases c1:ts.length<64
 ·rw[if_pos c1,cm hi64,Gq c1];by_cases c2:i<ts.length
  ·rw[key c2,decide_eq_true c2,Bool.and_true,Bool.true_and]
  ·rw[decide_eq_false c2,Bool.and_false,Bool.false_and]
 ·rw[if_neg c1,key (by omega),decide_eq_true (by omega:i<ts.length),Bool.true_and]
set_option maxHeartbeats 8000000
def fD (p0:(List (List Nat))) (p1:Nat) (p2:Nat) (K:Bool->Prop):Prop :=
 an (α:=Bool) (fun k2=>((ltN p1 0)=true->k2 true)/\((ltN p1 0)=false->((!ltN p1 p0.length)=true->k2 true)/\((!ltN p1 p0.length)=false->((ltN p2 0)=true->k2 true)/\((ltN p2 0)=false->0<64/\p2<2 ^ 63/\∃ x3,p0[p1]?=some x3/\k2 (!ltN (p2/64) x3.length))))) (fun v1=>(v1=true->K false)/\(v1=false->∃ x4,p0[p1]?=some x4/\0<64/\p2<2 ^ 63/\∃ x5,x4[(p2/64)]?=some x5/\0<64/\(p2%64)<=63/\K (eqN ((x5/2 ^ (p2%64))%2 ^ 1) 1)))
theorem qc {p0:(List (List Nat))}{p1:Nat}{p2:Nat}{K:Bool->Prop} (hm:fD p0 p1 p2 K) {h0:Heap} (hB:HasB vars h0):∃ r,K r/\CallD Tryz.prog NG 119 ⟨[(ah 1 (ah 1 n64)) p0,i64 p1,i64 p2]⟩ h0 (Value.bool r) h0:=by
 unfold fD at hm
 refine fw Tryz.func119 hB (enc:=Value.bool) (fun r=>PureV.flat rfl) fun O=>?_;conv=>whnf
 apply Cs;conv=>whnf
 apply Cs;refine gH ?_
 apply Cs;conv=>whnf
 refine jn hm 42 [0,1,2] (fun s=>s) (fun v1 h=>Own vars h0 [] h) (fun v1=>[(28,(.bool v1))]) (fun hm=>?_) ?_
 ·refine gX ?_;refine br hm (fun hm=>?_) fun hm=>?_
  ·refine gX ?_;refine bt ?_;refine gH ?_;refine bt ?_;refine gH ?_;exact jx true hm O
  ·refine gX ?_;refine br hm (fun hm=>?_) fun hm=>?_
   ·refine gX ?_;refine bt ?_;refine gH ?_;exact jx true hm O
   ·refine gX ?_;refine br hm (fun hm=>?_) fun hm=>?_
    ·refine gX ?_;exact jx true hm O
    ·refine gX ?_;refine CM hm fun hm=>?_;refine gH ?_;refine atF hm fun x3 hx3 hm=>?_;refine gH ?_;exact jx (!ltN (p2/64) x3.length) hm O
 ·clear hm;rintro v1 base h hm O;refine gX ?_;refine br hm (fun hm=>?_) fun hm=>?_
  ·refine gX ?_;exact fe hm O
  ·refine gX ?_;refine atF hm fun x4 hx4 hm=>?_;refine gH ?_;refine CM hm fun hm=>?_;refine gH ?_;refine atF hm fun x5 hx5 hm=>?_;refine gH ?_;refine ri hm fun hm=>?_;refine gH ?_;refine Ji hm fun hm=>?_;refine gH ?_;refine Jb 1 1 ?_;refine gX ?_;exact fe hm O
def iC (p0:(List Int)) (p1:Nat) (K:(List Int)->Prop):Prop :=
 an (α:=Unit) (fun k1=>((ltN p1 0)=true->False)/\((ltN p1 0)=false->k1 ())) (fun _=>p0.length<2 ^ 63/\p1<2 ^ 63/\pB p0.length p1 (fun r2=>an (α:=Unit) (fun k3=>an (α:=Bool) (fun k5=>((ltN 0 r2.1)=true->k5 true)/\((ltN 0 r2.1)=false->k5 (ltN 9223372036854775807 r2.2))) (fun v4=>(v4=true->False)/\(v4=false->k3 ()))) (fun _=>r2.2<2 ^ 63/\8*r2.2<=2 ^ 48/\r2.2<2 ^ 63/\0+r2.2<=(List.replicate r2.2 (0:Int)).length/\an (α:=(List Int)) (fun k9=>aF (S:=((List Int)×Nat)) (fun (v10,v11) nx12=>((ltN v11 r2.2)=true->v11<=r2.2/\v11<=r2.2/\v11+(r2.2-v11)<=v10.length/\v11<=v10.length/\v11+(min (r2.2-v11) (v10.take v11).length)<2 ^ 63/\nx12 ((mb v10 v11 (r2.2-v11) (v10.take v11)),(v11+(min (r2.2-v11) (v10.take v11).length))))/\((ltN v11 r2.2)=false->k9 v10)) ((mb (List.replicate r2.2 (0:Int)) 0 r2.2 p0),(min r2.2 p0.length))) (fun v8=>r2.2=v8.length/\K v8))))
theorem rn {p0:(List Int)}{p1:Nat}{K:(List Int)->Prop} (hm:iC p0 p1 K) {h0:Heap} (hB:HasB vars h0):∃ v h',CallD Tryz.prog NG 187 ⟨[(ah 1 z64) p0,i64 p1]⟩ h0 v h'/\qO vars h0 K (fun (r:(List Int)) a=>iW a (r.map z64)) (fun (r:(List Int))=>r) z64 false v h':=by
 unfold iC at hm
 refine fg Tryz.func187 (Q:=qO vars h0 K (fun (r:(List Int)) a=>iW a (r.map z64)) (fun (r:(List Int))=>r) z64 false) ?_;have O:=Own.start hB;conv=>whnf
 apply Cs;conv=>whnf
 apply Cs;refine gH ?_;refine jn hm 48 [0,1] (fun s=>s) (fun _ h=>Own vars h0 [] h) (fun _=>[]) (fun hm=>?_) ?_
 ·refine gX ?_;refine br hm (fun hm=>?_) fun hm=>?_
  ·refine gX ?_;exact False.elim hm
  ·refine gX ?_;exact jx () hm O
 ·clear hm;rintro _ base h hm O;refine gX ?_;refine aCv hm JP fun hm=>?_;refine gH ?_;refine aCv hm JP fun hm=>?_;refine gH ?_;refine ca (uM hm O.has) fun r2 hm=>?_;refine gH ?_;refine jn hm 48 [0,6] (fun s=>s) (fun _ h=>Own vars h0 [] h) (fun _=>[]) (fun hm=>?_) ?_
  ·refine jn hm 48 [0,6] (fun s=>s) (fun v4 h=>Own vars h0 [] h) (fun v4=>[(26,(.bool v4))]) (fun hm=>?_) ?_
   ·refine gX ?_;refine br hm (fun hm=>?_) fun hm=>?_
    ·refine gX ?_;exact jx true hm O
    ·refine gX ?_;exact jx (ltN 9223372036854775807 r2.2) hm O
   ·clear hm;rintro v4 base h hm O;refine gX ?_;refine br hm (fun hm=>?_) fun hm=>?_
    ·refine gX ?_;exact False.elim hm
    ·refine gX ?_;exact jx () hm O
  ·clear hm;rintro _ base h hm O;refine gX ?_;refine aCv hm BY fun hm=>?_;refine gH ?_;refine O.mkL (enc:=z64) 8 1 0 hm fun g6 h O hm=>?_;refine gX ?_;refine O.Im (enc:=z64) (l:=(List.replicate r2.2 (0:Int))) (src:=p0) (s:=1) (o:=0) (.head _) rfl rfl (by decide) rfl (SrcOk.fl rfl) (fun _=>rfl) (by decide) (fun _=>rfl) hm.1 fun h O=>?_;refine gH ?_;replace hm:=hm.2;refine jn hm 48 [7] (fun s=>s) (fun v8 h=>Own vars h0 [(sC g6 (flatC (v8.map z64)))] h) (fun v8=>[]) (fun hm=>?_) ?_
   ·refine gX ?_;refine lw 48 [7] (σ:=((List Int)×Nat)) (fun s=>s) (fun (v10,v11) h=>Own vars h0 [(sC g6 (flatC (v10.map z64)))] h) (fun (v10,v11)=>[(8,(i64 v11))]) ((mb (List.replicate r2.2 (0:Int)) 0 r2.2 p0),(min r2.2 p0.length)) hm O ?_;clear hm;rintro⟨v10,v11⟩ nx12 base h hm O;refine gX ?_;refine br hm (fun hm=>?_) fun hm=>?_
    ·refine gX ?_;refine GC (s:=1) (m:=v11) rfl rfl rfl rfl hm.1 ?_;refine gH ?_;replace hm:=hm.2;refine Jf (s:=1) (m:=v11) rfl rfl rfl rfl hm.1 ?_;refine gH ?_;replace hm:=hm.2;refine O.Im (enc:=z64) (l:=v10) (src:=(v10.take v11)) (s:=1) (o:=v11) (.head _) rfl rfl rfl rfl (SrcOk.Kf O.i0 rfl (fun _=>rfl) hm.2.1) (fun _=>rfl) (by decide) (fun _=>rfl) hm.1 fun h O=>?_;refine gH ?_;replace hm:=hm.2.2;refine aH hm fun hm=>?_;refine gH ?_;exact jx ((mb v10 v11 (r2.2-v11) (v10.take v11)),(v11+(min (r2.2-v11) (v10.take v11).length))) hm O
    ·refine gX ?_;exact jx v10 hm O
   ·clear hm;rintro v8 base h hm O;refine gX ?_;obtain⟨hn13,hm⟩:=hm;exact⟨v8,some g6,hm,VLe.of_eq (JC (l:=v8) (enc:=z64) (g:=g6) hn13),(fun e=>nomatch e),(fun e=>nomatch e),O.sel [0] (by decide)⟩
def lG (p0:(List Int)) (K:(List Int)->Prop):Prop :=
 (p0.isEmpty=true->K ([]:List Int))/\(p0.isEmpty=false->(([]:List Int).length+p0.length)*8<=2 ^ 47/\0<(([]:List Int)++p0).length/\K (([]:List Int)++p0))
theorem sB {p0:(List Int)}{K:(List Int)->Prop} (hm:lG p0 K) {h0:Heap} (hB:HasB vars h0):∃ v h',CallD Tryz.prog NG 158 ⟨[(JF 1 z64) p0]⟩ h0 v h'/\qO vars h0 K (fun (r:(List Int)) a=>ae 1 a (r.map z64)) (fun (r:(List Int))=>r) z64 false v h':=by
 unfold lG at hm
 refine fg Tryz.func158 (Q:=qO vars h0 K (fun (r:(List Int)) a=>ae 1 a (r.map z64)) (fun (r:(List Int))=>r) z64 false) ?_;have O:=Own.start hB;conv=>whnf
 refine gX ?_;have O:=O.bC (.cells (flatC ((([]:List Int)).map z64)) false);refine nlN ?_;refine gX ?_;refine br hm (fun hm=>?_) fun hm=>?_
 ·refine gX ?_;have O:=O.bC (.cells (flatC ((([]:List Int)).map z64)) false);exact⟨([]:List Int),none,hm,VLe.refl _ _,(fun _=>rfl),(fun e=>nomatch e),O.sel [0] (by decide)⟩
 ·refine gX ?_;refine O.AQ rfl rfl rfl fun g3 h O=>?_;refine gH ?_;refine O.HV (enc:=z64) (l:=([]:List Int)) (new:=p0) (s:=1) (b:=8) (.head _) rfl rfl rfl rfl rfl rfl rfl rfl rfl (YOk.fn rfl) (fun _=>rfl) (fun _=>rfl) (by decide) hm.1 fun g7 a8 h O=>?_;refine gX ?_;replace hm:=hm.2;obtain⟨hp9,hm⟩:=hm;exact⟨(([]:List Int)++p0),some g7,hm,O.Hp (.head _) (fun _=>rfl) rfl hp9,(fun e=>nomatch e),GF hp9,O.sel [0] (by decide)⟩
def cD (p0:Ldg) (p1:Nat) (K:(Nat×Nat)->Prop):Prop :=
 an (α:=Nat) (fun k2=>aF (S:=(Nat×Nat)) (fun (v3,v4) nx5=>((ltN v4 p0.count.length)=true->an (α:=Nat) (fun k7=>∃ x8,p0.count[v4]?=some x8/\((!ltN x8 p1)=true->v3+1<2 ^ 63/\k7 (v3+1))/\((!ltN x8 p1)=false->k7 v3)) (fun v6=>v4+1<2 ^ 63/\nx5 (v6,(v4+1))))/\((ltN v4 p0.count.length)=false->k2 v3)) (0,0)) (fun v1=>K (v1,p0.count.length))
theorem mr {p0:Ldg}{p1:Nat}{K:(Nat×Nat)->Prop} (hm:cD p0 p1 K) {h0:Heap} (hB:HasB vars h0):∃ r,K r/\CallD Tryz.prog NG 26 ⟨[dR p0,i64 p1]⟩ h0 ((fun (r:(Nat×Nat))=>Value.tuple ⟨[i64 (r.1),i64 (r.2)]⟩) r) h0:=by
 unfold cD at hm
 refine fw Tryz.func26 hB (enc:=(fun (r:(Nat×Nat))=>Value.tuple ⟨[i64 (r.1),i64 (r.2)]⟩)) (fun r=>PureV.tup (AllPure.cons (PureV.flat rfl) (AllPure.cons (PureV.flat rfl) (AllPure.nil)))) fun O=>?_;conv=>whnf
 refine gX ?_;refine fz ?_;refine gH ?_;refine jn hm 25 [2] (fun s=>s) (fun v1 h=>Own vars h0 [] h) (fun v1=>[(4,(i64 v1))]) (fun hm=>?_) ?_
 ·refine gX ?_;refine lw 25 [1,2,9,10] (σ:=(Nat×Nat)) (fun s=>s) (fun (v3,v4) h=>Own vars h0 [] h) (fun (v3,v4)=>[(4,(i64 v3)),(11,(i64 v4))]) (0,0) hm O ?_;clear hm;rintro⟨v3,v4⟩ nx5 base h hm O;refine gX ?_;refine br hm (fun hm=>?_) fun hm=>?_
  ·apply Cs;conv=>whnf
   refine jn hm 25 [1,2,9,10,11] (fun s=>s) (fun v6 h=>Own vars h0 [] h) (fun v6=>[(4,(i64 v6))]) (fun hm=>?_) ?_
   ·refine gX ?_;refine atF hm fun x8 hx8 hm=>?_;refine gX ?_;refine br hm (fun hm=>?_) fun hm=>?_
    ·refine gX ?_;refine aH hm fun hm=>?_;refine gH ?_;exact jx (v3+1) hm O
    ·refine gX ?_;exact jx v3 hm O
   ·clear hm;rintro v6 base h hm O;refine gX ?_;refine aH hm fun hm=>?_;refine gH ?_;exact jx (v6,(v4+1)) hm O
  ·refine gX ?_;exact jx v3 hm O
 ·clear hm;rintro v1 base h hm O;refine gX ?_;refine dF ?_;refine gX ?_;exact⟨(v1,p0.count.length),hm,O.ext,fun h2 F=>VLe.tup (LLe.cons (VLe.refl _ _) (LLe.cons (VLe.refl _ _) (LLe.nil _)))⟩
def recAt (hit:Nat->Bool) (most:Nat):Nat->Int×Nat
 |0=>(-1,0)
 |i+1=>if (recAt hit most i).2<most/\hit i=true then (if (recAt hit most i).2=0 then Int.ofNat i else (recAt hit most i).1,(recAt hit most i).2+1) else recAt hit most i
theorem dH (hit:Nat->Bool) (most i:Nat):recAt hit most (i+1)=if (recAt hit most i).2<most/\hit i=true then (if (recAt hit most i).2=0 then Int.ofNat i else (recAt hit most i).1,(recAt hit most i).2+1) else recAt hit most i:=rfl
theorem zI (hit:Nat->Bool) (most:Nat):∀ i,(recAt hit most i).2<=i
 |0=>Nat.le_refl _
 |i+1=>by
  have:=zI hit most i;rw[dH];split
  ·dsimp only;omega
  ·omega
theorem sg {f g:Nat->Bool} (most:Nat):∀ n,(∀ i,i<n->f i=g i)->recAt f most n=recAt g most n
 |0,_=>rfl
 |n+1,h=>by
  have ih:=sg most n fun i hi=>h i (by omega);rw[dH,dH,ih,h n (Nat.lt_succ_self n)]
theorem oD {hit:Nat->Bool}{most:Nat} (hm:0<most):∀ n,((recAt hit most n).2=0/\(recAt hit most n).1 = -1/\∀ i,i<n->hit i=false)\/(0<(recAt hit most n).2/\∃ j,j<n/\hit j=true/\(recAt hit most n).1=Int.ofNat j/\∀ i,i<j->hit i=false)
 |0=>.inl ⟨rfl,rfl,fun i hi=>absurd hi (Nat.not_lt_zero i)⟩
 |n+1=>by
  rcases oD hm n with⟨h1,h2,h3⟩|⟨h1,j,h2,h3,h4,h5⟩
  ·by_cases c:hit n=true
   ·refine .inr ?_;rw[dH]
    have hlt:(recAt hit most n).2<most:=by rw[h1];exact hm
    rw[if_pos ⟨hlt,c⟩,if_pos h1];exact⟨Nat.succ_pos _,n,Nat.lt_succ_self n,c,rfl,h3⟩
   ·refine .inl ?_;rw[dH];rw[if_neg (fun q=>c q.2)];refine⟨h1,h2,fun i hi=>?_⟩;by_cases e:i=n
    ·subst e;simpa using c
    ·exact h3 i (by omega)
  ·refine .inr ?_;rw[dH];split
   ·rw[if_neg (by omega)];exact⟨Nat.succ_pos _,j,by omega,h3,h4,h5⟩
   ·exact⟨h1,j,by omega,h3,h4,h5⟩
def oI (c:Circ) (ts:List Pat) (f:Flt) (i:Nat):Bool:=fb c (ts.getD i ⟨[],[]⟩) f
def bQ (c:Circ) (l:List Flt) (ts:List Pat) (most:Nat):Ldg:=⟨l.map fun f=>(recAt (oI c ts f) most ts.length).1,l.map fun f=>(recAt (oI c ts f) most ts.length).2,ts.length⟩
theorem Ci {c:Circ}{ts:List Pat}{f:Flt}{v most:Nat} (h:pD c ts f v) (h64:ts.length<=64):recAt v.testBit most ts.length=recAt (oI c ts f) most ts.length :=
 sg most _ fun i hi=>by rw[h i (by omega),decide_eq_true hi,Bool.true_and];rfl
def jf (c:Circ) (l:List Flt) (ts:List Pat) (most:Nat) (K:Ldg->Prop):Prop :=
 Cir c/\(∀ f∈l,StuckOk c f)/\(∀ p∈ts,PatOk c p)/\0<l.length/\l.length<=65536/\ts.length<=64/\0<most/\most<2 ^ 62/\K (bQ c l ts most)
def kq (x:Ldg) (K:List Nat->Prop):Prop :=
 0<x.first.length/\x.first.length<=65536/\x.tests<2 ^ 62/\∀ r:List Nat,r.Pairwise (· < ·)->(∀ v,v∈r↔Int.ofNat v∈x.first/\v<x.tests)->K r
def vJ:Flt:=⟨0,⟨0,0⟩,0,0⟩
def eh {α:Type} (xs:List α) (d:α) (i:Nat):List α:=xs.take i++List.replicate (xs.length-i) d
theorem xh {α:Type}{xs:List α}{d:α}{i:Nat} (h:i<=xs.length):(eh xs d i).length=xs.length:=by
 unfold eh;rw[List.length_append,List.length_take,List.length_replicate];omega
theorem oT {α:Type} (xs:List α) (d:α):eh xs d 0=List.replicate xs.length d:=by unfold eh;rfl
theorem qS {α:Type} (xs:List α) (d:α):eh xs d xs.length=xs:=by unfold eh;rw[List.take_length,Nat.sub_self];simp
theorem qW {α:Type}{xs:List α}{d:α}{i:Nat} (h:i<xs.length):(eh xs d i)[i]?=some d:=by
 unfold eh;rw[List.getElem?_append_right (by rw[List.length_take];omega),List.length_take,Nat.min_eq_left (by omega),Nat.sub_self,List.getElem?_replicate,if_pos (by omega)]
theorem qK {α:Type}{xs:List α}{d x:α}{i:Nat} (h:xs[i]?=some x):(eh xs d i).set i x=eh xs d (i+1):=by
 have hi:=ag h;unfold eh;apply List.ext_getElem?;intro j;rw[List.getElem?_set];by_cases e:i=j
 ·subst e;rw[if_pos rfl,if_pos (by rw[List.length_append,List.length_take,List.length_replicate];omega),List.getElem?_append_left (by rw[List.length_take];omega),List.getElem?_take,if_pos (by omega),h]
 ·rw[if_neg e];by_cases c:j<i
  ·rw[List.getElem?_append_left (by rw[List.length_take];omega),List.getElem?_append_left (by rw[List.length_take];omega),List.getElem?_take,List.getElem?_take,if_pos c,if_pos (by omega)]
  ·rw[List.getElem?_append_right (by rw[List.length_take];omega),List.getElem?_append_right (by rw[List.length_take];omega),List.length_take,List.length_take,List.getElem?_replicate,List.getElem?_replicate];by_cases c2:j<xs.length
   ·rw[if_pos (by omega),if_pos (by omega)]
   ·rw[if_neg (by omega),if_neg (by omega)]
set_option maxHeartbeats 8000000
theorem Hl {n:Nat} (hn:n<=65536) {v:Int}{K:List Int->Prop} (h:K (List.replicate n v)):iC [v] n K:=by
 unfold iC;refine dM (a:=()) (fun g=>⟨fun q=>absurd (aO.1 q) (Nat.not_lt_zero _),fun _=>g⟩) ⟨by rw[List.length_singleton];omega,by omega,rfl,by omega,?_⟩;refine dM (a:=()) (fun g=>dM (a:=false) (fun g2=>⟨fun q=>absurd (aO.1 q) (Nat.lt_irrefl 0),fun _=>?_⟩) ⟨(fun q=>by cases q),fun _=>g⟩) ?_
 ·have e:ltN 9223372036854775807 n=false:=bk.2 (by omega);exact (congrArg _ e).mpr g2
 refine⟨by show n<_;omega,by show 8*n<=_;omega,by show n<_;omega,by show 0+n<=(List.replicate n (0:Int)).length;simp,?_⟩;refine aA (fun s=>s.1.length=n/\s.2<=n/\(0<n->0<s.2)/\s.1.take s.2=List.replicate s.2 v) (fun s=>n-s.2) (fun r=>r=List.replicate n v) ?_ ⟨?_,?_,?_,?_⟩ ?_
 ·rintro k ⟨l,i⟩ nx ⟨hl,hi,hp,ht⟩ hnx hk;dsimp only at hl hi hp ht;refine⟨fun q=>?_,fun q=>hk _ ?_⟩
  ·have q:i<n:=aO.1 q;have hi0:=hp (by omega)
   have htl:(l.take i).length=i:=by rw[List.length_take];omega
   dsimp only;rw[htl];refine⟨by omega,by omega,by omega,by omega,by omega,hnx _ ⟨?_,?_,?_,?_⟩ ?_⟩
   ·dsimp only;unfold mb;rw[htl];simp only[List.length_append,List.length_take,List.length_drop];omega
   ·dsimp only;omega
   ·intro _;dsimp only;omega
   ·dsimp only;unfold mb;rw[htl,ht];rw[<- List.append_assoc,List.take_append_of_le_length (by simp only[List.length_append,List.length_take,List.length_replicate];omega)];rw[List.take_of_length_le (by simp only[List.length_append,List.length_take,List.length_replicate];omega)];rw[List.take_replicate,List.replicate_append_replicate];congr 1;omega
   ·dsimp only;omega
  ·have q:n<=i:=bk.1 q
   have:i=n:=by omega
   subst this;rw[List.take_of_length_le (by omega)] at ht;exact ht
 ·dsimp only;unfold mb;simp only[List.length_append,List.length_take,List.length_drop,List.length_replicate,List.length_singleton];omega
 ·dsimp only;omega
 ·intro h0;dsimp only;rw[List.length_singleton];omega
 ·dsimp only;unfold mb
  cases n with
  |zero=>rfl
  |succ n =>
   have:min (n+1) [v].length=1:=by rw[List.length_singleton];omega
   rw[this];rfl
 ·rintro _ rfl;exact⟨by simp,h⟩
theorem DM {n m:Nat} (hp:0<n) (hn:n<=65536) {h0 h:Heap}{S:List Slot} (O:Own vars h0 S h) :
  ∃ u h',CallD Tryz.prog NG 115 ⟨[i64 n,i64 m]⟩ h u h'/\∃ gF gC:Nat,u=.agg ⟨[.slice (some ⟨gF,0,none⟩) n n,.slice (some ⟨gC,0,none⟩) n n,i64 m]⟩/\Own vars h0 ((some gF,.cells (flatC ((List.replicate n (-1:Int)).map z64)) false)::(some gC,.cells (flatC ((List.replicate n 0).map i64)) false)::S) h':=by
 refine fg Tryz.func115 ?_;conv=>whnf
 refine gX ?_;refine O.new (ai (l:=[.slice none 0 0,.slice none 0 0,i64 0]) rfl rfl rfl) fun g4 h O=>?_;refine gH ?_
 apply Cs;conv=>whnf
 apply Cs;refine gH ?_;refine O.dJ (l:=([-1]:List Int)) (enc:=z64) (s:=1) (z:=z64 0) rfl rfl (by kernel_rfl) (by kernel_rfl) rfl rfl rfl rfl (fun _=>rfl) fun gb h O=>?_;refine gH ?_;refine O.Jo (la:=([-1]:List Int)) (enc':=z64) (.head _) rfl (fun _=>rfl) (i:=0) (l:=[ah 1 z64 [-1],i64 n]) rfl (fk Tryz.func187) (fun h2 q=>LLe.cons q (LLe.cons (VLe.refl _ _) (LLe.nil _))) fun h O=>?_;refine caO (rn (K:=fun r=>r=List.replicate n (-1)) (Hl (v := -1) hn rfl) O.has) O fun r a h ex ha _ O hr=>?_;subst hr
 have ev:iW a ((List.replicate n (-1:Int)).map z64)=.slice (a.map fun g=>⟨g,0,none⟩) n n:=by unfold iW;simp
 dsimp only;rw[ev]
 obtain⟨gF,rfl⟩:∃ g,a=some g:=by
  cases a with
  |some g=>exact⟨g,rfl⟩
  |none =>
   have:=congrArg List.length (ha rfl);rw[List.length_replicate] at this;exact absurd this (by simp;omega)
 refine gH ?_;refine⟨.inr (by kernel_rfl),?_⟩;refine gH ?_;refine O.BE (enc:=i64) (z:=0) (b:=8) (s:=1) (n:=n) rfl rfl rfl rfl rfl (by decide) (by kernel_rfl) rfl rfl (by omega) (by omega) fun gC h O=>?_;refine gH ?_;refine O.stC 3 (.tail _ (.tail _ (.tail _ (.head _)))) [.slice (some ⟨gF,0,none⟩) n n,.slice (some ⟨gC,0,none⟩) n n,i64 m] fun h O=>?_;refine⟨.inl (by kernel_rfl),?_⟩;refine gX ?_;refine⟨_,au rfl rfl O.i3 rfl rfl (lbE rfl) rfl,?_⟩;exact⟨gF,gC,rfl,O.fY [_,_,_,_] [1,0] (by decide)⟩
theorem Fs {r:List (List Nat)}{k i v:Nat} (hr:r[k]?=some [v]) (hi:i<64) {K:Bool->Prop} (h:K (v.testBit i)):fD r k i K:=by
 unfold fD;have hk:=ag hr
 have e0:i/64=0:=by omega
 have e1:i%64=i:=by omega
 refine dM (a:=false) (fun g=>⟨fun q=>absurd (aO.1 q) (Nat.not_lt_zero _),fun _=>⟨fun q=>?_,fun _=>⟨fun q=>absurd (aO.1 q) (Nat.not_lt_zero _),fun _=>⟨by decide,by omega,[v],hr,?_⟩⟩⟩⟩) ⟨(fun q=>by cases q),fun _=>⟨[v],hr,by decide,by omega,v,by rw[e0];rfl,by decide,by omega,?_⟩⟩
 ·have:=aO.2 hk;rw[this] at q;cases q
 ·have e:(!ltN (i/64) [v].length)=false:=by rw[e0];rfl
  rw[e];exact g
 ·rw[e1]
  have:eqN (v/2 ^ i%2 ^ 1) 1=v.testBit i:=by rw[Nat.testBit_eq_decide_div_mod_eq,kI]
  rw[this];exact h
theorem F4 {r:List (List Nat)}{k i v:Nat} (hr:r[k]?=some [v]) (hi:i<64) {h0 h:Heap}{S:List Slot}{gt gk:Nat} (O:Own vars h0 S h) (mt:(some gt,.cells [ah 1 (ah 1 n64) r] false)∈S) (mk:(some gk,.cells [i64 k] false)∈S) :
  ∃ u h',CallD Tryz.prog NG 118 ⟨[i64 i,.pointer (some ⟨gt,0,none⟩),.pointer (some ⟨gk,0,none⟩)]⟩ h u h'/\u=.bool (v.testBit i)/\h'=h:=by
 refine fg Tryz.func118 ?_;conv=>whnf
 refine gX ?_;refine ldO (O.at mt) ?_;refine gH ?_;refine ldO (O.at mk) ?_;refine gH ?_;refine ca (qc (K:=fun b=>b=v.testBit i) (Fs hr hi rfl) O.has) fun b hb=>?_;refine gX ?_;exact⟨congrArg Value.bool hb,rfl⟩
theorem zG {r:List (List Nat)}{k v n fault most N T:Nat} (hr:r[k]?=some [v]) (hn:n<=64) (hmost:most<2 ^ 62) {F:List Int}{C:List Nat} (hF:F[fault]?=some (-1)) (hC:C[fault]?=some 0) (hFN:N=F.length) (hCN:N=C.length) {h0 h:Heap}{S:List Slot}{gt gk gx gF gC:Nat}
  (mt:(some gt,.cells [ah 1 (ah 1 n64) r] false)∈S) (mk:(some gk,.cells [i64 k] false)∈S) (mx:(some gx,.cells [.slice (some ⟨gF,0,none⟩) N N,.slice (some ⟨gC,0,none⟩) N N,i64 T] false)∈S)
  (O:Own vars h0 ((some gF,.cells (flatC (F.map z64)) false)::(some gC,.cells (flatC (C.map i64)) false)::S) h) :
  ∃ u h',CallD Tryz.prog NG 117 ⟨[.pointer (some ⟨gx,0,none⟩),i64 fault,i64 0,i64 n,i64 most,.func (.func 118) ⟨[]⟩ ⟨[.pointer (some ⟨gt,0,none⟩),.pointer (some ⟨gk,0,none⟩)]⟩]⟩ h u h'/\u=.tuple ⟨[]⟩ /\
   Own vars h0 ((some gF,.cells (flatC ((F.set fault (recAt v.testBit most n).1).map z64)) false)::(some gC,.cells (flatC ((C.set fault (recAt v.testBit most n).2).map i64)) false)::S) h':=by
 have hFl:=ag hF;refine fg Tryz.func117 ?_;refine gX ?_;refine ib hM (nn:=58) (by kernel_rfl) (σ:=Nat) (fun i h=>i<=n/\Own vars h0 ((some gF,.cells (flatC ((F.set fault (recAt v.testBit most i).1).map z64)) false)::(some gC,.cells (flatC ((C.set fault (recAt v.testBit most i).2).map i64)) false)::S) h)
  (fun i=>[(0,.pointer (some ⟨gx,0,none⟩)),(1,i64 fault),(2,i64 0),(4,i64 most),(5,.func (.func 118) ⟨[]⟩ ⟨[.pointer (some ⟨gt,0,none⟩),.pointer (some ⟨gk,0,none⟩)]⟩),(13,i64 n),(14,i64 i)]) (fun i=>n-i) rfl ⟨0,⟨Nat.zero_le _,?_⟩,rfl,rfl,rfl,rfl,rfl,rfl,rfl,trivial⟩ ?_
 ·have e1:F.set fault (recAt v.testBit most 0).1=F:=mE hF;have e2:C.set fault (recAt v.testBit most 0).2=C:=mE hC;rw[e1,e2];exact O
 clear O;rintro i base h ⟨hi,O⟩;obtain⟨⟨a,b⟩,hs⟩:∃ s,recAt v.testBit most i=s:=⟨_,rfl⟩;have hb:=zI v.testBit most i;rw[hs] at O hb;dsimp only at O hb;have hFj:(F.set fault a)[fault]?=some a:=List.getElem?_set_self hFl;have hCj:(C.set fault b)[fault]?=some b:=List.getElem?_set_self (by omega);refine gX ?_;by_cases hlt:i<n
 ·refine bt ?_ (congrArg Value.bool (by show ltN i n=true;rw[aY];simp;omega));refine gX ?_;refine ldO (O.at (.tail _ (.tail _ mx))) ?_;refine gH ?_;refine bb (s:=1) (j:=fault) rfl rfl rfl rfl (by omega) ?_;refine gH ?_;refine ldE (s:=1) (i:=0) O.i1 hCj ?_;refine gH ?_;by_cases hlm:b<most
  ·refine bt ?_ (congrArg Value.bool (by show ltN b most=true;rw[aY];simp;omega));refine gH ?_;obtain⟨u,h',cd,rfl,rfl⟩:=F4 hr (by omega:i<64) O (.tail _ (.tail _ mt)) (.tail _ (.tail _ mk));refine⟨_,_,cd,?_⟩;refine gX ?_
   have hsucc:v.testBit i=true->recAt v.testBit most (i+1)=(if b=0 then Int.ofNat i else a,b+1):=fun ht=>by
    rw[dH,hs,if_pos ⟨hlm,ht⟩]
   have hsame:v.testBit i=false->recAt v.testBit most (i+1)=(a,b):=fun ht=>by
    rw[dH,hs,if_neg (fun q=>by rw[ht] at q;cases q.2)]
   refine br (b:=v.testBit i) ⟨id,id⟩ (fun ht=>?_) fun hf=>?_
   ·refine gX ?_;refine ldO (O.at (.tail _ (.tail _ mx))) ?_;refine gH ?_;refine bb (s:=1) (j:=fault) rfl rfl rfl rfl (by omega) ?_;refine gH ?_;refine ldE (s:=1) (i:=0) O.i1 hCj ?_;refine gX ?_;by_cases hb0:b=0
    ·refine bt ?_ (congrArg Value.bool (by show eqN b 0=true;rw[kI];simp;omega));refine gX ?_;refine ldO (O.at (.tail _ (.tail _ mx))) ?_;refine gH ?_;refine aH (a:=0) (b:=i) (W:=True) ⟨by omega,trivial⟩ fun _=>?_;refine gH ?_;refine bb (s:=1) (j:=fault) rfl rfl rfl rfl (by omega) ?_;refine gH ?_;refine O.stE (enc:=z64) 1 (.head _) hFj (Int.ofNat (0+i)) fun h O=>?_;refine gX ?_;refine ldO (O.at (.tail _ (.tail _ mx))) ?_;refine gH ?_;refine bb (s:=1) (j:=fault) rfl rfl rfl rfl (by omega) ?_;refine gH ?_;refine ldE (s:=1) (i:=0) O.i1 hCj ?_;refine gH ?_;refine aH (a:=b) (b:=1) (W:=True) ⟨by omega,trivial⟩ fun _=>?_;refine gH ?_;refine bb (s:=1) (j:=fault) rfl rfl rfl rfl (by omega) ?_;refine gH ?_;refine O.stE (enc:=i64) 1 (.tail _ (.head _)) hCj (b+1) fun h O=>?_;refine gX ?_;refine aH (a:=i) (b:=1) (W:=True) ⟨by omega,trivial⟩ fun _=>?_;refine gX ?_;refine⟨i+1,by show n-(i+1)<n-i;omega,⟨hlt,?_⟩,rfl,rfl,rfl,rfl,rfl,rfl,rfl,trivial⟩;rw[hsucc ht,if_pos hb0];rw[List.set_set,List.set_set,Nat.zero_add] at O;exact O
    ·refine bf ?_ (congrArg Value.bool (by show eqN b 0=false;rw[kI];simp;omega));refine gX ?_;refine ldO (O.at (.tail _ (.tail _ mx))) ?_;refine gH ?_;refine bb (s:=1) (j:=fault) rfl rfl rfl rfl (by omega) ?_;refine gH ?_;refine ldE (s:=1) (i:=0) O.i1 hCj ?_;refine gH ?_;refine aH (a:=b) (b:=1) (W:=True) ⟨by omega,trivial⟩ fun _=>?_;refine gH ?_;refine bb (s:=1) (j:=fault) rfl rfl rfl rfl (by omega) ?_;refine gH ?_;refine O.stE (enc:=i64) 1 (.tail _ (.head _)) hCj (b+1) fun h O=>?_;refine gX ?_;refine aH (a:=i) (b:=1) (W:=True) ⟨by omega,trivial⟩ fun _=>?_;refine gX ?_;refine⟨i+1,by show n-(i+1)<n-i;omega,⟨hlt,?_⟩,rfl,rfl,rfl,rfl,rfl,rfl,rfl,trivial⟩;rw[hsucc ht,if_neg hb0];rw[List.set_set] at O;exact O
   ·refine gX ?_;refine aH (a:=i) (b:=1) (W:=True) ⟨by omega,trivial⟩ fun _=>?_;refine gX ?_;refine⟨i+1,by show n-(i+1)<n-i;omega,⟨hlt,?_⟩,rfl,rfl,rfl,rfl,rfl,rfl,rfl,trivial⟩;rw[hsame hf];exact O
  ·refine bf ?_ (congrArg Value.bool (by show ltN b most=false;rw[aY];simp;omega));refine gX ?_
   have hsame:recAt v.testBit most (i+1)=(a,b):=by
    rw[dH,hs,if_neg (fun q=>hlm q.1)]
   refine bf ?_;refine gX ?_;refine aH (a:=i) (b:=1) (W:=True) ⟨by omega,trivial⟩ fun _=>?_;refine gX ?_;refine⟨i+1,by show n-(i+1)<n-i;omega,⟨hlt,?_⟩,rfl,rfl,rfl,rfl,rfl,rfl,rfl,trivial⟩;rw[hsame];exact O
 ·refine bf ?_ (congrArg Value.bool (by show ltN i n=false;rw[aY];simp;omega));refine gX ?_
  have:i=n:=by omega
  subst this;rw[hs];exact O
theorem eU {α:Type}{l:List α}{i:Nat}{x:α} (h:l[i]?=some x):l.take (i+1)=l.take i++[x]:=by
 obtain⟨h1,rfl⟩:=List.getElem?_eq_some_iff.1 h;exact List.take_succ_eq_append_getElem h1
def vx (c:Circ) (i:Nat):List LnZ:=(List.range ((insOf c i).length+1)).map fun j=>⟨i,Int.ofNat j-Int.ofNat 1⟩
def iB (c:Circ) (i:Nat):List LnZ:=(List.range i).flatMap (vx c)
def oS (c:Circ):List LnZ:=iB c c.nodes.length
theorem pN (c:Circ) (i:Nat):iB c (i+1)=iB c i++vx c i:=by
 unfold iB;rw[List.range_succ,List.flatMap_append];simp
theorem ny {c:Circ} (C:Cir c):∀ i,i<=c.nodes.length->(iB c i).length<=i*17
 |0,_=>by unfold iB;simp
 |i+1,h=>by
  have:=ny C i (by omega);obtain⟨x,hx⟩:=av (show i<c.nodes.length from h);have:=(C.good.node i x hx).few;rw[pN,List.length_append];unfold vx;rw[List.length_map,List.length_range,ch hx];omega
theorem tT {c:Circ} (C:Cir c) {K:List LnZ×Nat->Prop} (h:K (oS c,0)):cb c K:=by
 have hlen:=C.len;unfold cb;refine zN C ⟨(fun q=>absurd rfl (fx.1 q)),fun _=>?_⟩;refine aA (fun s=>s.2<=c.nodes.length/\s.1=iB c s.2) (fun s=>c.nodes.length-s.2) (fun l=>l=oS c) ?_ ⟨Nat.zero_le _,rfl⟩ (fun _ e=>e ▸ h);rintro k ⟨l,i⟩ nx ⟨hi,hl⟩ hnx hk;dsimp only at hi hl;refine⟨fun q=>?_,fun q=>hk _ ?_⟩
 ·have q:i<c.nodes.length:=aO.1 q;obtain⟨x,hx⟩:=av q;have hfew:=(C.good.node i x hx).few;have hll:=ny C i hi;refine dG (fun r=>r=iB c (i+1)) (fun k2 hk2=>⟨x,hx,by omega,?_⟩) ?_
  ·refine bo (fun s=>s.2<=x.ins.length+1/\s.1=iB c i++(vx c i).take s.2) (fun s=>x.ins.length+1-s.2) ?_ ⟨Nat.zero_le _,by simp[hl]⟩;rintro⟨l,j⟩ nx ⟨hj,hl⟩ hnx;dsimp only at hj hl;refine⟨fun q=>?_,fun q=>hk2 _ ?_⟩
   ·have q:j<x.ins.length+1:=aO.1 q
    have hg:(vx c i)[j]?=some ⟨i,Int.ofNat j-Int.ofNat 1⟩:=by
     unfold vx;rw[List.getElem?_map,ch hx,List.getElem?_range q];rfl
    have hb:((vx c i).take j).length<=17:=by
     rw[List.length_take];omega
    refine⟨by simp only[Int.ofNat_eq_natCast];omega,by simp only[Int.ofNat_eq_natCast];omega,?_,by omega,hnx _ ⟨q,?_⟩ (by dsimp only;omega)⟩
    ·rw[hl,List.length_append,List.length_singleton];omega
    ·dsimp only;rw[hl,List.append_assoc,eU hg]
   ·have q:x.ins.length+1<=j:=bk.1 q;rw[hl,pN,List.take_of_length_le];unfold vx;rw[List.length_map,List.length_range,ch hx];exact q
  ·rintro _ rfl;exact⟨by omega,hnx _ ⟨q,rfl⟩ (by dsimp only;omega)⟩
 ·have q:c.nodes.length<=i:=bk.1 q
  have e:i=c.nodes.length:=by omega
  subst e;exact hl
theorem yx {c:Circ} (C:Cir c) {p:Pat} (hp:PatOk c p) {K:Nat->Prop} (h:K 0):fj c p K:=by
 unfold fj;exact zC C.good ⟨(fun q=>absurd rfl (fx.1 q)),fun _=>HO C hp h⟩
theorem bj {α:Type}{l:List α}{a b:α}:a∈l++[b]↔a∈l\/a=b:=by rw[List.mem_append,List.mem_singleton]
theorem zw {κ ν:Type} [DecidableEq κ] (m:List (κ×ν)) (k k':κ) (v:ν):cv (kh m k v) k'=if k'=k then some v else cv m k':=by
 induction m with
 |nil=>unfold kh cv cv;rfl
 |cons a m ih =>
  unfold kh;by_cases e:k=a.1
  ·rw[if_pos e];unfold cv;by_cases e2:k'=k
   ·rw[if_pos e2,if_pos e2]
   ·rw[if_neg e2,if_neg e2,if_neg (fun q=>e2 (q.trans e.symm))]
  ·rw[if_neg e];unfold cv;by_cases e2:k'=a.1
   ·rw[if_pos e2,if_pos e2,if_neg (fun q=>e (q.symm.trans e2))]
   ·rw[if_neg e2,if_neg e2,ih]
theorem Bq:(([⟨#[97]⟩,⟨#[98]⟩,⟨#[121]⟩]:List ByteArray).all fun s=>isTrue (je Tryz.prog [] (ni Tryz.prog) 60 258 #[.string s] (bJ vars)))=true:=by kernel_rfl
theorem Fy {s:ByteArray} (h:s∈([⟨#[97]⟩,⟨#[98]⟩,⟨#[121]⟩]:List ByteArray)):HC s:=by
 obtain⟨h',e⟩:=uF (List.all_eq_true.1 Bq s h);have c:=(iN hM hP (fun f vs h v e=>gS f vs h v e) 60 _ _ _ _ _ e).1;exact⟨PureV.tH rfl,fun h b=>c.lift (by kernel_rfl) rfl (pf (Cu b) (sI b))⟩
set_option maxHeartbeats 8000000
theorem pZ {l:List Int}{p:Int->Bool}{i:Nat}{x:Int} (hx:l[i]?=some x) (hpx:p x=true) (hq:∀ y∈l.take i,p y=false):(l.take (i+1)).filter (fun x => !p x)=l.take i:=by
 rw[eU hx,List.filter_append]
 have:(l.take i).filter (fun x => !p x)=l.take i:=List.filter_eq_self.2 fun y m=>by simp[hq y m]
 rw[this];simp[hpx]
theorem zJ {h0 h:Heap}{S:List Slot}{g:Nat}{l:List Int}{q:Ldg}{p:Int->Bool} (hl:l.length<2 ^ 60) (O:Own vars h0 ((some g,.cells (flatC (l.map z64)) false)::S) h)
  (hp:∀ x∈l,CallD Tryz.prog NG 159 ⟨[z64 x,FP (dR q)]⟩ h (.bool (p x)) h) :
  ∃ u h',CallD Tryz.prog NG 177 ⟨[ae 1 (some g) (l.map z64),.func (.func 159) ⟨[]⟩ ⟨[FP (dR q)]⟩]⟩ h u h'/\h'=h/\((u=z64 (-1)/\∀ x∈l,p x=false)\/∃ i x,u=i64 i/\l[i]?=some x/\p x=true/\∀ y∈l.take i,p y=false):=by
 have hgl:(l.map z64).length=l.length:=List.length_map ..;refine fg Tryz.func177 ?_;refine gX ?_;refine ib hM (nn:=19) (by kernel_rfl) (σ:=Nat) (fun i h2=>i<=l.length/\h2=h/\∀ y∈l.take i,p y=false)
  (fun i=>[(0,ae 1 (some g) (l.map z64)),(1,.func (.func 159) ⟨[]⟩ ⟨[FP (dR q)]⟩),(7,i64 l.length),(8,i64 i)]) (fun i=>l.length-i) rfl ⟨0,⟨Nat.zero_le _,rfl,(fun y m=>by cases m)⟩,rfl,rfl,rfl,rfl,trivial⟩ ?_
 rintro i base h2 ⟨hi,rfl,hq⟩;refine gX ?_;by_cases hlt:i<l.length
 ·refine bt ?_ (congrArg Value.bool (by show ltN i l.length=true;rw[aY];simp;omega));refine gX ?_;obtain⟨x,hx⟩:∃ x,l[i]?=some x:=⟨_,List.getElem?_eq_getElem hlt⟩;refine bb (s:=1) (j:=i) rfl rfl rfl rfl (by omega) ?_;refine gH ?_;refine ldE (s:=1) (i:=0) O.i0 hx ?_;refine gH ?_;refine⟨_,_,hp x (List.mem_of_getElem? hx),?_⟩;refine gX ?_;refine br (b:=p x) ⟨id,id⟩ (fun ht=>?_) fun hf=>?_
  ·refine gX ?_;exact .inr ⟨i,x,rfl,hx,ht,hq⟩
  ·refine gX ?_;refine aH (a:=i) (b:=1) (W:=True) ⟨by omega,trivial⟩ fun _=>?_;refine gX ?_;refine⟨i+1,by show l.length-(i+1)<l.length-i;omega,⟨hlt,rfl,fun y m=>?_⟩,rfl,rfl,rfl,rfl,trivial⟩;rw[eU hx] at m
   rcases List.mem_append.1 m with m|m
   ·exact hq y m
   ·rw[List.mem_singleton.1 m];exact hf
 ·refine bf ?_ (congrArg Value.bool (by show ltN i l.length=false;rw[aY];simp;omega));refine gX ?_
  have:i=l.length:=by omega
  subst this;rw[List.take_of_length_le (Nat.le_refl _)] at hq;exact .inl ⟨rfl,hq⟩
theorem yd {h0 h:Heap}{S:List Slot}{g:Nat}{l:List Int}{q:Ldg}{p:Int->Bool} (hl:l.length<2 ^ 60) (O:Own vars h0 ((some g,.cells (flatC (l.map z64)) false)::S) h)
  (hp:∀ x∈l,∀ (l':List Int) h,l'.length=l.length->Own vars h0 ((some g,.cells (flatC (l'.map z64)) false)::S) h->CallD Tryz.prog NG 159 ⟨[z64 x,FP (dR q)]⟩ h (.bool (p x)) h) :
  ∃ u h',CallD Tryz.prog NG 120 ⟨[ae 1 (some g) (l.map z64),.func (.func 159) ⟨[]⟩ ⟨[FP (dR q)]⟩]⟩ h u h'/\u=lZ 1 (some g) (l.filter fun x => !p x).length l.length /\
   ∃ z:List Int,(l.filter (fun x => !p x)++z).length=l.length/\Own vars h0 ((some g,.cells (flatC ((l.filter (fun x => !p x)++z).map z64)) false)::S) h':=by
 have hgl:(l.map z64).length=l.length:=List.length_map ..;refine fg Tryz.func120 ?_;refine gX ?_;obtain⟨u,h2,cd,rfl,hcase⟩:=zJ hl O fun x m=>hp x m l h rfl O;refine⟨_,_,cd,?_⟩
 rcases hcase with⟨rfl,hall⟩|⟨i,x,rfl,hx,hpx,hbef⟩
 ·refine gX ?_;refine bt ?_;refine gX ?_
  have e:l.filter (fun x => !p x)=l:=List.filter_eq_self.2 fun y m=>by simp[hall y m]
  rw[e];refine⟨?_,[],by simp,by rw[List.append_nil];exact O⟩;rw[hgl];rfl
 ·have hxi:=ag hx;refine gX ?_;refine bf ?_;refine gX ?_;refine aH (a:=i) (b:=1) (W:=True) ⟨by omega,trivial⟩ fun _=>?_;refine gX ?_;refine ib hM (nn:=42) (by kernel_rfl) (σ:=List Int×Nat×Nat) (fun s h=>s.1.length=l.length/\s.2.1<s.2.2/\s.2.2<=l.length/\s.1.take s.2.1=(l.take s.2.2).filter (fun x => !p x)/\(∀ m,s.2.2<=m->s.1[m]?=l[m]?)/\Own vars h0 ((some g,.cells (flatC (s.1.map z64)) false)::S) h)
   (fun s=>[(0,ae 1 (some g) (l.map z64)),(1,.func (.func 159) ⟨[]⟩ ⟨[FP (dR q)]⟩),(5,i64 s.2.1),(6,i64 s.2.2)]) (fun s=>l.length-s.2.2) rfl ⟨(l,i,i+1),⟨rfl,Nat.lt_succ_self i,hxi,(pZ hx hpx hbef).symm,fun _ _=>rfl,O⟩,rfl,rfl,rfl,rfl,trivial⟩ ?_
  clear O;rintro⟨l',k,j⟩ base h ⟨hl',hkj,hj,ht,hs,O⟩;dsimp only at hl' hkj hj ht hs O;refine gX ?_;by_cases hlt:j<l.length
  ·refine bt ?_ (congrArg Value.bool (by show ltN j l.length=true;rw[aY];simp;omega));refine gX ?_;obtain⟨y,hy⟩:∃ y,l[j]?=some y:=⟨_,List.getElem?_eq_getElem hlt⟩;have hy':l'[j]?=some y:=(hs j (Nat.le_refl _)).trans hy;refine bb (s:=1) (j:=j) rfl rfl rfl rfl (by omega) ?_;refine gH ?_;refine ldE (s:=1) (i:=0) O.i0 hy' ?_;refine gX ?_;refine⟨_,_,hp y (List.mem_of_getElem? hy) l' h hl' O,?_⟩;refine gX ?_;refine br (b := !p y) ⟨id,id⟩ (fun hy1=>?_) fun hy1=>?_
   ·refine gX ?_;obtain⟨w,hw⟩:∃ w,l'[k]?=some w:=⟨_,List.getElem?_eq_getElem (by omega)⟩;refine bb (s:=1) (j:=k) rfl rfl rfl rfl (by omega) ?_;refine gH ?_;refine O.stE (enc:=z64) 1 (.head _) hw y fun h O=>?_;refine gX ?_;refine aH (a:=k) (b:=1) (W:=True) ⟨by omega,trivial⟩ fun _=>?_;refine gX ?_;refine aH (a:=j) (b:=1) (W:=True) ⟨by omega,trivial⟩ fun _=>?_;refine gH ?_;refine⟨(l'.set k y,k+1,j+1),(show l.length-(j+1)<l.length-j by omega),⟨(List.length_set ..).trans hl',by dsimp only;omega,by dsimp only;omega,?_,fun m hm=>?_,O⟩,rfl,rfl,rfl,rfl,trivial⟩
    ·show (l'.set k y).take (k+1)=(l.take (j+1)).filter (fun x => !p x)
     rw[eU hy,List.filter_append,<- ht,eU (List.getElem?_set_self (ag hw)),List.take_set_of_le (Nat.le_refl _)];simp[hy1]
    ·dsimp only at hm ⊢;rw[List.getElem?_set_ne (by omega)];exact hs m (by omega)
   ·refine gX ?_;refine aH (a:=j) (b:=1) (W:=True) ⟨by omega,trivial⟩ fun _=>?_;refine gH ?_;refine⟨(l',k,j+1),(show l.length-(j+1)<l.length-j by omega),⟨hl',by dsimp only;omega,by dsimp only;omega,?_,fun m hm=>hs m (by dsimp only at hm;omega),O⟩,rfl,rfl,rfl,rfl,trivial⟩
    show l'.take k=(l.take (j+1)).filter (fun x => !p x)
    rw[eU hy,List.filter_append,<- ht];simp[hy1]
  ·refine bf ?_ (congrArg Value.bool (by show ltN j l.length=false;rw[aY];simp;omega));refine gX ?_
   have hkl:k<=(l.map z64).length:=by rw[hgl];omega
   have hfl:(l.filter (fun x => !p x))=l'.take k:=by rw[ht,List.take_of_length_le (by omega)]
   have hkn:(l.filter (fun x => !p x)).length=k:=by rw[hfl,List.length_take];omega
   refine qb k hkl ?_;refine gH ?_;refine O.Bp (enc:=z64) (l:=l') (z:=0) (s:=1) (o:=k) (n:=(l.map z64).length-k) (.head _) rfl (by kernel_rfl) rfl (by kernel_rfl) rfl rfl (fun _=>rfl) (by decide) (fun _=>rfl) (by rw[hgl,hl'];omega) fun h O=>?_;refine gX ?_;refine Bk k hkl ?_;refine gX ?_;rw[<- hfl] at O;refine⟨by rw[hkn,hgl];rfl,_,?_,O⟩;rw[hfl];simp only[List.length_append,List.length_take,List.length_replicate,List.length_drop];omega
theorem yO {h0 h:Heap}{S:List Slot}{g:Nat}{l:List Int}{gx most:Nat}{p:Int->Bool} (hl:l.length<2 ^ 60) (O:Own vars h0 ((some g,.cells (flatC (l.map z64)) false)::S) h)
  (hp:∀ x∈l,CallD Tryz.prog NG 121 ⟨[z64 x,.pointer (some ⟨gx,0,none⟩),FP (i64 most)]⟩ h (.bool (p x)) h) :
  ∃ u h',CallD Tryz.prog NG 177 ⟨[ae 1 (some g) (l.map z64),.func (.func 121) ⟨[]⟩ ⟨[.pointer (some ⟨gx,0,none⟩),FP (i64 most)]⟩]⟩ h u h'/\h'=h/\((u=z64 (-1)/\∀ x∈l,p x=false)\/∃ i x,u=i64 i/\l[i]?=some x/\p x=true/\∀ y∈l.take i,p y=false):=by
 have hgl:(l.map z64).length=l.length:=List.length_map ..;refine fg Tryz.func177 ?_;refine gX ?_;refine ib hM (nn:=19) (by kernel_rfl) (σ:=Nat) (fun i h2=>i<=l.length/\h2=h/\∀ y∈l.take i,p y=false)
  (fun i=>[(0,ae 1 (some g) (l.map z64)),(1,.func (.func 121) ⟨[]⟩ ⟨[.pointer (some ⟨gx,0,none⟩),FP (i64 most)]⟩),(7,i64 l.length),(8,i64 i)]) (fun i=>l.length-i) rfl ⟨0,⟨Nat.zero_le _,rfl,(fun y m=>by cases m)⟩,rfl,rfl,rfl,rfl,trivial⟩ ?_
 rintro i base h2 ⟨hi,rfl,hq⟩;refine gX ?_;by_cases hlt:i<l.length
 ·refine bt ?_ (congrArg Value.bool (by show ltN i l.length=true;rw[aY];simp;omega));refine gX ?_;obtain⟨x,hx⟩:∃ x,l[i]?=some x:=⟨_,List.getElem?_eq_getElem hlt⟩;refine bb (s:=1) (j:=i) rfl rfl rfl rfl (by omega) ?_;refine gH ?_;refine ldE (s:=1) (i:=0) O.i0 hx ?_;refine gH ?_;refine⟨_,_,hp x (List.mem_of_getElem? hx),?_⟩;refine gX ?_;refine br (b:=p x) ⟨id,id⟩ (fun ht=>?_) fun hf=>?_
  ·refine gX ?_;exact .inr ⟨i,x,rfl,hx,ht,hq⟩
  ·refine gX ?_;refine aH (a:=i) (b:=1) (W:=True) ⟨by omega,trivial⟩ fun _=>?_;refine gX ?_;refine⟨i+1,by show l.length-(i+1)<l.length-i;omega,⟨hlt,rfl,fun y m=>?_⟩,rfl,rfl,rfl,rfl,trivial⟩;rw[eU hx] at m
   rcases List.mem_append.1 m with m|m
   ·exact hq y m
   ·rw[List.mem_singleton.1 m];exact hf
 ·refine bf ?_ (congrArg Value.bool (by show ltN i l.length=false;rw[aY];simp;omega));refine gX ?_
  have:i=l.length:=by omega
  subst this;rw[List.take_of_length_le (Nat.le_refl _)] at hq;exact .inl ⟨rfl,hq⟩
theorem xG {h0 h:Heap}{S:List Slot}{g:Nat}{l:List Int}{gx most:Nat}{p:Int->Bool} (hl:l.length<2 ^ 60) (O:Own vars h0 ((some g,.cells (flatC (l.map z64)) false)::S) h)
  (hp:∀ x∈l,∀ (l':List Int) h,l'.length=l.length->Own vars h0 ((some g,.cells (flatC (l'.map z64)) false)::S) h->CallD Tryz.prog NG 121 ⟨[z64 x,.pointer (some ⟨gx,0,none⟩),FP (i64 most)]⟩ h (.bool (p x)) h) :
  ∃ u h',CallD Tryz.prog NG 120 ⟨[ae 1 (some g) (l.map z64),.func (.func 121) ⟨[]⟩ ⟨[.pointer (some ⟨gx,0,none⟩),FP (i64 most)]⟩]⟩ h u h'/\u=lZ 1 (some g) (l.filter fun x => !p x).length l.length /\
   ∃ z:List Int,(l.filter (fun x => !p x)++z).length=l.length/\Own vars h0 ((some g,.cells (flatC ((l.filter (fun x => !p x)++z).map z64)) false)::S) h':=by
 have hgl:(l.map z64).length=l.length:=List.length_map ..;refine fg Tryz.func120 ?_;refine gX ?_;obtain⟨u,h2,cd,rfl,hcase⟩:=yO hl O fun x m=>hp x m l h rfl O;refine⟨_,_,cd,?_⟩
 rcases hcase with⟨rfl,hall⟩|⟨i,x,rfl,hx,hpx,hbef⟩
 ·refine gX ?_;refine bt ?_;refine gX ?_
  have e:l.filter (fun x => !p x)=l:=List.filter_eq_self.2 fun y m=>by simp[hall y m]
  rw[e];refine⟨?_,[],by simp,by rw[List.append_nil];exact O⟩;rw[hgl];rfl
 ·have hxi:=ag hx;refine gX ?_;refine bf ?_;refine gX ?_;refine aH (a:=i) (b:=1) (W:=True) ⟨by omega,trivial⟩ fun _=>?_;refine gX ?_;refine ib hM (nn:=42) (by kernel_rfl) (σ:=List Int×Nat×Nat) (fun s h=>s.1.length=l.length/\s.2.1<s.2.2/\s.2.2<=l.length/\s.1.take s.2.1=(l.take s.2.2).filter (fun x => !p x)/\(∀ m,s.2.2<=m->s.1[m]?=l[m]?)/\Own vars h0 ((some g,.cells (flatC (s.1.map z64)) false)::S) h)
   (fun s=>[(0,ae 1 (some g) (l.map z64)),(1,.func (.func 121) ⟨[]⟩ ⟨[.pointer (some ⟨gx,0,none⟩),FP (i64 most)]⟩),(5,i64 s.2.1),(6,i64 s.2.2)]) (fun s=>l.length-s.2.2) rfl ⟨(l,i,i+1),⟨rfl,Nat.lt_succ_self i,hxi,(pZ hx hpx hbef).symm,fun _ _=>rfl,O⟩,rfl,rfl,rfl,rfl,trivial⟩ ?_
  clear O;rintro⟨l',k,j⟩ base h ⟨hl',hkj,hj,ht,hs,O⟩;dsimp only at hl' hkj hj ht hs O;refine gX ?_;by_cases hlt:j<l.length
  ·refine bt ?_ (congrArg Value.bool (by show ltN j l.length=true;rw[aY];simp;omega));refine gX ?_;obtain⟨y,hy⟩:∃ y,l[j]?=some y:=⟨_,List.getElem?_eq_getElem hlt⟩;have hy':l'[j]?=some y:=(hs j (Nat.le_refl _)).trans hy;refine bb (s:=1) (j:=j) rfl rfl rfl rfl (by omega) ?_;refine gH ?_;refine ldE (s:=1) (i:=0) O.i0 hy' ?_;refine gX ?_;refine⟨_,_,hp y (List.mem_of_getElem? hy) l' h hl' O,?_⟩;refine gX ?_;refine br (b := !p y) ⟨id,id⟩ (fun hy1=>?_) fun hy1=>?_
   ·refine gX ?_;obtain⟨w,hw⟩:∃ w,l'[k]?=some w:=⟨_,List.getElem?_eq_getElem (by omega)⟩;refine bb (s:=1) (j:=k) rfl rfl rfl rfl (by omega) ?_;refine gH ?_;refine O.stE (enc:=z64) 1 (.head _) hw y fun h O=>?_;refine gX ?_;refine aH (a:=k) (b:=1) (W:=True) ⟨by omega,trivial⟩ fun _=>?_;refine gX ?_;refine aH (a:=j) (b:=1) (W:=True) ⟨by omega,trivial⟩ fun _=>?_;refine gH ?_;refine⟨(l'.set k y,k+1,j+1),(show l.length-(j+1)<l.length-j by omega),⟨(List.length_set ..).trans hl',by dsimp only;omega,by dsimp only;omega,?_,fun m hm=>?_,O⟩,rfl,rfl,rfl,rfl,trivial⟩
    ·show (l'.set k y).take (k+1)=(l.take (j+1)).filter (fun x => !p x)
     rw[eU hy,List.filter_append,<- ht,eU (List.getElem?_set_self (ag hw)),List.take_set_of_le (Nat.le_refl _)];simp[hy1]
    ·dsimp only at hm ⊢;rw[List.getElem?_set_ne (by omega)];exact hs m (by omega)
   ·refine gX ?_;refine aH (a:=j) (b:=1) (W:=True) ⟨by omega,trivial⟩ fun _=>?_;refine gH ?_;refine⟨(l',k,j+1),(show l.length-(j+1)<l.length-j by omega),⟨hl',by dsimp only;omega,by dsimp only;omega,?_,fun m hm=>hs m (by dsimp only at hm;omega),O⟩,rfl,rfl,rfl,rfl,trivial⟩
    show l'.take k=(l.take (j+1)).filter (fun x => !p x)
    rw[eU hy,List.filter_append,<- ht];simp[hy1]
  ·refine bf ?_ (congrArg Value.bool (by show ltN j l.length=false;rw[aY];simp;omega));refine gX ?_
   have hkl:k<=(l.map z64).length:=by rw[hgl];omega
   have hfl:(l.filter (fun x => !p x))=l'.take k:=by rw[ht,List.take_of_length_le (by omega)]
   have hkn:(l.filter (fun x => !p x)).length=k:=by rw[hfl,List.length_take];omega
   refine qb k hkl ?_;refine gH ?_;refine O.Bp (enc:=z64) (l:=l') (z:=0) (s:=1) (o:=k) (n:=(l.map z64).length-k) (.head _) rfl (by kernel_rfl) rfl (by kernel_rfl) rfl rfl (fun _=>rfl) (by decide) (fun _=>rfl) (by rw[hgl,hl'];omega) fun h O=>?_;refine gX ?_;refine Bk k hkl ?_;refine gX ?_;rw[<- hfl] at O;refine⟨by rw[hkn,hgl];rfl,_,?_,O⟩;rw[hfl];simp only[List.length_append,List.length_take,List.length_replicate,List.length_drop];omega
set_option maxHeartbeats 1000000
def fM (c:Circ) (l:List Flt) (ts:List Pat) (K:List (List Nat)×Nat->Prop):Prop :=
 Cir c/\(∀ f∈l,StuckOk c f)/\(∀ p∈ts,PatOk c p)/\l.length<=65536/\ts.length<=64 /\
  ∀ r:List (List Nat),r.length=l.length->(0<ts.length->∀ (k:Nat) (f:Flt),l[k]?=some f->∃ v,r[k]?=some [v]/\pD c ts f v)->K (r,0)
theorem tj {c:Circ} (C:Cir c) {l:List Flt}{ts:List Pat} (hl:∀ f∈l,StuckOk c f) (hts:∀ p∈ts,PatOk c p) (h1:l.length<=65536) (h2:ts.length<=64) {K:Nat->Prop} (h:K 0):cp c l ts K:=by
 unfold cp;refine dG (fun b=>b=false) (fun k hk=>⟨fun q=>?_,fun q=>hk _ ?_⟩) fun b hb=>⟨fun q=>(by rw[hb] at q;cases q),fun _=>tT C ⟨fun q=>absurd rfl (fx.1 q),fun _=>?_⟩⟩
 ·have:=aO.1 q;omega
 ·exact bk.2 (by omega)
 refine aA (fun i=>i<=l.length) (fun i=>l.length-i) (fun _=>True) ?_ (Nat.zero_le _) fun _ _=>?_
 ·rintro k i nx hi hnx hk;refine⟨fun q=>?_,fun q=>hk _ trivial⟩;have q:i<l.length:=aO.1 q;obtain⟨f,hf⟩:=av q;have F:=hl f (List.mem_of_getElem? hf);exact⟨f,hf,vV C F ⟨fun q=>absurd rfl (fx.1 q),fun _=>⟨fun q=>(by have:=dA.1 q;have:=F.model;omega),fun _=>⟨by omega,hnx _ q (by omega)⟩⟩⟩⟩
 ·refine aA (fun i=>i<=ts.length) (fun i=>ts.length-i) (fun _=>True) ?_ (Nat.zero_le _) fun _ _=>h;rintro k i nx hi hnx hk;refine⟨fun q=>?_,fun q=>hk _ trivial⟩;have q:i<ts.length:=aO.1 q;obtain⟨p,hp⟩:=av q;exact⟨p,hp,yx C (hts p (List.mem_of_getElem? hp)) ⟨fun q=>absurd rfl (fx.1 q),fun _=>⟨by omega,hnx _ q (by omega)⟩⟩⟩
theorem D8 {p0:Circ}{p1:List Flt} (C:Cir p0) (hl:∀ f∈p1,StuckOk p0 f) (h1:p1.length<=65536) {h0:Heap} (hB:HasB vars h0):∃ r,r=List.replicate p1.length ([]:List Nat)/\CallD Tryz.prog NG 114 ⟨[ar p0,ah 5 az p1,ah 2 aP []]⟩ h0 ((fun (r:(List (List Nat)))=>Value.tuple ⟨[ah 1 (ah 1 n64) r,i64 0]⟩) r) h0:=by
 refine yH ?_ ?_ h1 hB
 ·exact tj C hl (fun _ m=>by cases m) h1 (Nat.zero_le _) rfl
 ·have hlen:=C.len
  have hn:p0.nodes.length<2 ^ 40:=by omega
  unfold cu;exact zh C.good fun o _=>qx hn (rD hn trivial)
theorem Fu {p0:Circ}{p1:List Flt}{p2:List Pat} (C:Cir p0) (hl:∀ f∈p1,StuckOk p0 f) (hts:∀ p∈p2,PatOk p0 p) (h1:p1.length<=65536) (hpos:0<p2.length) (h2:p2.length<=64) {h0:Heap} (hB:HasB vars h0) :
  ∃ r:List (List Nat),(r.length=p1.length/\∀ k,k<p1.length->∃ v,r[k]?=some [v]/\∀ f,p1[k]?=some f->pD p0 p2 f v)/\CallD Tryz.prog NG 114 ⟨[ar p0,ah 5 az p1,ah 2 aP p2]⟩ h0 ((fun (r:(List (List Nat)))=>Value.tuple ⟨[ah 1 (ah 1 n64) r,i64 0]⟩) r) h0:=by
 refine zL (G:=fun k v=>∀ f,p1[k]?=some f->pD p0 p2 f v) ?_ ?_ h1 hpos h2 hB
 ·exact tj C hl hts h1 h2 rfl
 ·have hG:∀ (k:Nat) (f:Flt) (v:Nat),p1[k]?=some f->pD p0 p2 f v->(fun (k v:Nat)=>∀ f,p1[k]?=some f->pD p0 p2 f v) k v:=fun k f v hf hv g hg=>by rw[hf] at hg;cases hg;exact hv
  have a2:=AZ (G:=fun (k v:Nat)=>∀ f,p1[k]?=some f->pD p0 p2 f v) C hts hl h2 hG;exact a2
theorem ec {p0:Circ}{p1:List Flt}{p2:List Pat}{K:(List (List Nat)×Nat)->Prop} (hm:fM p0 p1 p2 K) {h0:Heap} (hB:HasB vars h0):∃ r,K r/\CallD Tryz.prog NG 114 ⟨[ar p0,ah 5 az p1,ah 2 aP p2]⟩ h0 ((fun (r:(List (List Nat)×Nat))=>Value.tuple ⟨[(ah 1 (ah 1 n64)) (r.1),i64 (r.2)]⟩) r) h0:=by
 obtain⟨C,hl,hts,h1,h2,hk⟩:=hm;by_cases hz:p2=[]
 ·subst hz;obtain⟨r,rfl,c⟩:=D8 C hl h1 hB;exact⟨(List.replicate p1.length [],0),hk _ (List.length_replicate ..) (fun q=>absurd q (Nat.lt_irrefl 0)),c⟩
 ·obtain⟨r,⟨e1,e2⟩,c⟩:=Fu C hl hts h1 (List.length_pos_iff.2 hz) h2 hB;refine⟨(r,0),hk r e1 (fun _ k f hf=>?_),c⟩;obtain⟨v,hv,hg⟩:=e2 k (ag hf);exact⟨v,hv,hg f hf⟩
set_option maxHeartbeats 8000000
theorem Gw {l:List Flt}{R:List Nat}{n gL:Nat} (hrl:R.length=n) (hR:∀ i,i<n->R[i]?=some i) (hn:n=l.length) (h1:l.length<=65536) {h0 h:Heap}{S:List Slot} (O:Own vars h0 S h) (mL:(some gL,.cells (flatC (R.map i64)) false)∈S) :
  ∃ u h',CallD Tryz.prog NG 116 ⟨[ah 5 az l,ae 1 (some gL) (R.map i64)]⟩ h u h'/\∃ go,u=.slice (some ⟨go,0,none⟩) n n/\Own vars h0 ((some go,.cells (flatC (l.map az)) false)::S) h':=by
 have hgl:(R.map i64).length=n:=by rw[List.length_map];exact hrl
 refine fg Tryz.func116 ?_;refine gX ?_;refine O.mkL (enc:=az) (n:=R.length) (W:=True) 40 5 vJ ⟨by rw[hrl];omega,by rw[hrl];omega,trivial⟩ fun go h O _=>?_;refine gX ?_;refine ib hM (nn:=27) (by kernel_rfl) (σ:=Nat) (fun i h=>i<=n/\Own vars h0 ((some go,.cells (flatC ((eh l vJ i).map az)) false)::S) h)
  (fun i=>[(0,ah 5 az l),(5,.slice (some ⟨go,0,none⟩) R.length R.length),(11,ae 1 (some gL) (R.map i64)),(12,i64 R.length),(13,i64 i)]) (fun i=>n-i) rfl ⟨0,⟨Nat.zero_le _,?_⟩,rfl,rfl,rfl,rfl,rfl,trivial⟩ ?_
 ·rw[oT,<- hn,<- hrl];exact O
 clear O h;rintro i base h ⟨hi,O⟩;refine gX ?_;by_cases hlt:i<n
 ·refine bt ?_ (congrArg Value.bool (by show ltN i R.length=true;rw[hrl,aY];simp;omega));refine gX ?_;have hr:=hR i hlt;obtain⟨f,hf⟩:∃ f,l[i]?=some f:=⟨_,List.getElem?_eq_getElem (by omega)⟩;refine bb (s:=1) (j:=i) rfl rfl rfl rfl (by omega) ?_;refine gH ?_;refine ldE (s:=1) (i:=0) (O.at (.tail _ mL)) hr ?_;refine gX ?_;refine atF (W:=fun _=>True) ⟨f,hf,trivial⟩ fun f' hf' _=>?_;rw[hf] at hf';cases hf';refine gH ?_;have hgo:=qW (d:=vJ) (show i<l.length by omega);refine bb (s:=5) (j:=i) rfl rfl rfl rfl (by omega) ?_;refine gH ?_;refine O.stE 5 (.head _) hgo f fun h O=>?_;refine gX ?_;rw[qK hf] at O;refine aH (a:=i) (b:=1) (W:=True) ⟨by omega,trivial⟩ fun _=>?_;refine gX ?_;exact⟨i+1,by show n-(i+1)<n-i;omega,⟨hlt,O⟩,rfl,rfl,rfl,rfl,rfl,trivial⟩
 ·refine bf ?_ (congrArg Value.bool (by show ltN i R.length=false;rw[hrl,aY];simp;omega));refine gX ?_
  have:i=l.length:=by omega
  subst this;rw[qS] at O;exact⟨go,by rw[hrl];rfl,O⟩
theorem Ju {α:Type}{enc:α->Value}{s g cap:Nat}{sp:Option Nat}{l:List α}{h2:Heap} (hs:∀ x:α,(cl (enc x)).length=s) (hg:h2.get g=some (.cells (flatC (l.map enc)) true)):VLe h2 (.slice (some ⟨g,0,sp⟩) l.length cap) (ah s enc l):=by
 refine VLe.fl hg (by rw[List.length_map]) (aZ hs l) (by rw[aX hs];omega) ?_;rw[List.drop_zero,<- List.length_map (f:=enc),<- ba (aZ hs l),List.take_length];exact LLe.refl _ _
theorem Bf {gx gF gC N T most i:Nat}{C:List Nat} (hi:i<C.length) (hN:N=C.length) {h0 h:Heap}{S:List Slot} (mx:(some gx,.cells [.slice (some ⟨gF,0,none⟩) N N,.slice (some ⟨gC,0,none⟩) N N,i64 T] false)∈S) (mC:(some gC,.cells (flatC (C.map i64)) false)∈S) (O:Own vars h0 S h) :
  CallD Tryz.prog NG 121 ⟨[z64 (Int.ofNat i),.pointer (some ⟨gx,0,none⟩),FP (i64 most)]⟩ h (.bool (eqN (C.getD i 0) most)) h:=by
 obtain⟨u,h',c,rfl,rfl⟩:∃ u h',CallD Tryz.prog NG 121 ⟨[z64 (Int.ofNat i),.pointer (some ⟨gx,0,none⟩),FP (i64 most)]⟩ h u h'/\u=.bool (eqN (C.getD i 0) most)/\h'=h:=by
  refine fg Tryz.func121 ?_;refine gX ?_;refine ldO (O.at mx) ?_;refine gH ?_;refine⟨.inr (.inl (by kernel_rfl)),?_⟩;refine gH ?_;refine bb (s:=1) (j:=i) rfl rfl rfl rfl (by omega) ?_;refine gH ?_
  have hx:C[i]?=some (C.getD i 0):=by rw[List.getD,List.getElem?_eq_getElem hi];rfl
  refine ldE (s:=1) (i:=0) (O.at mC) hx ?_;(conv=>whnf);(repeat((first|apply Cs|apply Hx | (refine rd ?_) | (refine⟨.inl rfl,?_⟩) | (refine⟨rfl,?_⟩));(conv=>whnf)))
 exact c
theorem kC {c:Circ}{l:List Flt}{ts:List Pat}{most:Nat}{K:Ldg->Prop} (hm:jf c l ts most K) {h0:Heap} (hB:HasB vars h0):∃ r,K r/\CallD Tryz.prog NG 54 ⟨[ar c,ah 5 az l,ah 2 aP ts,i64 most]⟩ h0 (dR r) h0:=by
 obtain⟨C,hl,hts,hl0,h1,h2,hm0,hm1,hk⟩:=hm
 refine fw Tryz.func54 hB (enc:=dR) (fun r=>th _) fun O=>?_;conv=>whnf
 refine gX ?_;refine fz ?_;refine gH ?_;refine fz ?_;refine gH ?_;refine O.new (ai (l:=[.slice none 0 0,.slice none 0 0,i64 0]) rfl rfl rfl) fun g8 h O=>?_;refine gH ?_;refine gX ?_;obtain⟨u,h',cd,gF,gC,rfl,O⟩:=DM (n:=l.length) (m:=ts.length) hl0 h1 O;refine⟨_,_,cd,?_⟩;refine gH ?_;refine O.new (ai (l:=[.slice none 0 0,.slice none 0 0,i64 0]) rfl rfl rfl) fun g9 h O=>?_;refine gH ?_;refine O.stC 3 (.head _) [.slice (some ⟨gF,0,none⟩) l.length l.length,.slice (some ⟨gC,0,none⟩) l.length l.length,i64 ts.length] fun h O=>?_;refine gX ?_;have O:=O.bC (.cells (flatC (([]:List Nat).map i64)) false);refine ib hM (nn:=81) (by kernel_rfl) (σ:=Nat×Option Nat) (fun s h=>s.1<=l.length/\(s.2=none->s.1=0)/\Own vars h0 ((s.2,.cells (flatC ((List.range s.1).map i64)) false)::[(some g9,.cells [.slice (some ⟨gF,0,none⟩) l.length l.length,.slice (some ⟨gC,0,none⟩) l.length l.length,i64 ts.length] false),(some gF,.cells (flatC ((List.replicate l.length (-1:Int)).map z64)) false),(some gC,.cells (flatC ((List.replicate l.length 0).map i64)) false),(some g8,.cells [.slice none 0 0,.slice none 0 0,i64 0] false)]) h)
  (fun s=>[(1,ah 5 az l),(2,ah 2 aP ts),(4,FP (ar c)),(7,FP (i64 most)),(8,.pointer (some ⟨g8,0,none⟩)),(9,.pointer (some ⟨g9,0,none⟩)),(10,ae 1 s.2 ((List.range s.1).map i64)),(25,i64 l.length),(26,i64 s.1)]) (fun s=>l.length-s.1) rfl ⟨(0,none),⟨Nat.zero_le _,fun _=>rfl,O⟩,rfl,rfl,rfl,rfl,rfl,rfl,rfl,rfl,rfl,trivial⟩ ?_
 clear O;rintro⟨i,aL⟩ base h ⟨hi,ha,O⟩;dsimp only at hi ha O;refine gX ?_;by_cases hlt:i<l.length
 ·refine bt ?_ (congrArg Value.bool (by show ltN i l.length=true;rw[aY];simp;omega));refine gX ?_;refine fz ?_;refine gH ?_;refine O.apL (enc:=i64) (b:=8) (l:=List.range i) (new:=([i]:List Nat)) (W:=True) 1 (.head _) (fun q=>by rw[ha q];rfl) ⟨by rw[List.length_range,List.length_singleton];omega,trivial⟩ fun aL h haL O _=>?_;refine gX ?_;refine aH (a:=i) (b:=1) (W:=True) ⟨by omega,trivial⟩ fun _=>?_;refine gX ?_;rw[<- List.range_succ] at haL O;refine⟨(i+1,aL),by show l.length-(i+1)<l.length-i;omega,⟨hlt,fun q=>?_,O⟩,rfl,rfl,rfl,rfl,rfl,rfl,?_,rfl,rfl,trivial⟩
  ·have:=congrArg List.length (haL q);rw[List.length_range] at this;exact absurd this (Nat.succ_ne_zero i)
  ·show ae 1 aL _=_
   rw[List.range_succ]
 ·refine bf ?_ (congrArg Value.bool (by show ltN i l.length=false;rw[aY];simp;omega));refine gX ?_
  have:i=l.length:=by omega
  subst this
  obtain⟨gL,rfl⟩:∃ g,aL=some g:=by
   cases aL with
   |some g=>exact⟨g,rfl⟩
   |none=>exact absurd (ha rfl) (by omega)
  clear ha hlt hi;refine aH (a:=ts.length) (b:=64) (W:=True) ⟨by omega,trivial⟩ fun _=>?_;refine gH ?_;refine nW (a:=ts.length+64) (b:=1) (W:=True) ⟨by omega,by omega,trivial⟩ fun _=>?_;refine gH ?_;refine CM (a:=ts.length+64-1) (b:=64) (W:=True) ⟨by decide,by omega,trivial⟩ fun _=>?_;refine gX ?_
  refine ib hM (nn:=81) (by kernel_rfl) (σ:=Nat×Value) (fun s h=>(s.1=0/\s.2=ae 1 (some gL) ((List.range l.length).map i64)/\Own vars h0 [(some gL,.cells (flatC ((List.range l.length).map i64)) false),(some g9,.cells [.slice (some ⟨gF,0,none⟩) l.length l.length,.slice (some ⟨gC,0,none⟩) l.length l.length,i64 ts.length] false),(some gF,.cells (flatC ((List.replicate l.length (-1:Int)).map z64)) false),(some gC,.cells (flatC ((List.replicate l.length 0).map i64)) false),(some g8,.cells [.slice none 0 0,.slice none 0 0,i64 0] false)] h) \/
    (s.1=1/\0<ts.length/\(∃ n m,s.2=lZ 1 (some gL) n m)/\Own vars h0 [(some g9,.cells [.slice (some ⟨gF,0,none⟩) l.length l.length,.slice (some ⟨gC,0,none⟩) l.length l.length,i64 ts.length] false),(some gF,.cells (flatC ((bQ c l ts most).first.map z64)) false),(some gC,.cells (flatC ((bQ c l ts most).count.map i64)) false),(some g8,.cells [.slice none 0 0,.slice none 0 0,i64 0] false)] h))
   (fun s=>[(1,ah 5 az l),(2,ah 2 aP ts),(4,FP (ar c)),(7,FP (i64 most)),(8,.pointer (some ⟨g8,0,none⟩)),(9,.pointer (some ⟨g9,0,none⟩)),(10,s.2),(38,i64 ((ts.length+64-1)/64)),(39,i64 s.1)]) (fun s=>1-s.1) rfl ⟨(0,_),.inl ⟨rfl,rfl,O⟩,rfl,rfl,rfl,rfl,rfl,rfl,rfl,rfl,rfl,trivial⟩ ?_
  clear O;rintro⟨b,lv⟩ base h (⟨hb,hlv,O⟩|⟨hb,hp,⟨n,m,hlv⟩,O⟩)
  ·dsimp only at hb hlv;subst hb hlv;refine gX ?_;by_cases ht:0<ts.length
   ·have hq:(ts.length+64-1)/64=1:=by omega
    refine bt ?_ (congrArg Value.bool (by show ltN 0 ((ts.length+64-1)/64)=true;rw[hq];rfl));refine gX ?_;refine E4 (a:=0) (b:=64) (W:=True) ⟨by decide,trivial⟩ fun _=>?_;refine gX ?_;refine aH (a:=0*64) (b:=64) (W:=True) ⟨by decide,trivial⟩ fun _=>?_;refine gH ?_;refine⟨_,JD (a:=0*64+64) (b:=ts.length) rfl rfl,?_⟩;refine gH ?_;refine Ii (s:=2) (enc:=aP) (l:=ts) (i:=0*64) (j:=min (0*64+64) ts.length) (by omega) (Nat.min_le_right _ _) ?_
    have hdt:List.drop (0*64) (List.take (min (0*64+64) ts.length) ts)=ts:=by rw[Nat.zero_mul,List.drop_zero,List.take_of_length_le (by omega)]
    rw[hdt];refine gH ?_
    apply Cs;conv=>whnf
    refine CodeS.rH ?_;refine gH ?_;have hrR:(List.range l.length).length=l.length:=List.length_range;obtain⟨u,h,cd,go,rfl,O⟩:=Gw (l:=l) (R:=List.range l.length) hrR (fun i hi=>List.getElem?_range hi) rfl h1 O (.head _);refine⟨_,_,cd,?_⟩;refine gH ?_;refine O.ID (fun _ hb=>ec (p0:=c) (p1:=l) (p2:=ts) (K:=fun r=>r.2=0/\r.1.length=l.length/\∀ (k:Nat) (f:Flt),l[k]?=some f->∃ v,r.1[k]?=some [v]/\pD c ts f v) ?_ hb) (.head _) (i:=1) rfl (fk Tryz.func114) (fun h2 hg=>LLe.cons (VLe.refl _ _) (LLe.cons (Ju (fun _=>rfl) hg) (LLe.cons (VLe.refl _ _) (LLe.nil _)))) fun r h hQ O=>?_
    ·exact⟨C,hl,hts,h1,h2,fun r e1 e2=>⟨rfl,e1,e2 ht⟩⟩
    obtain⟨rr,r2⟩:=r;obtain⟨rfl,hr1,hr2⟩:=hQ;dsimp only at hr1 hr2;refine gH ?_;refine O.AK (ai (l:=[.slice none 0 0]) rfl rfl rfl) fun gt h O=>?_;refine gH ?_;refine O.stC 1 (.head _) [ah 1 (ah 1 n64) rr] fun h O=>?_;refine gX ?_;have O:=O.sel [4,5,0,2,3,6] (by decide)
    have hXFl:(bQ c l ts most).first.length=l.length:=by unfold bQ;simp
    have hXCl:(bQ c l ts most).count.length=l.length:=by unfold bQ;simp
    refine ib hM (nn:=81) (by kernel_rfl) (σ:=Nat) (fun j h=>j<=l.length/\Own vars h0 [(some gF,.cells (flatC ((eh (bQ c l ts most).first (-1) j).map z64)) false),(some gC,.cells (flatC ((eh (bQ c l ts most).count 0 j).map i64)) false),(some gt,.cells [ah 1 (ah 1 n64) rr] false),(some gL,.cells (flatC ((List.range l.length).map i64)) false),(some g9,.cells [.slice (some ⟨gF,0,none⟩) l.length l.length,.slice (some ⟨gC,0,none⟩) l.length l.length,i64 ts.length] false),(some g8,.cells [.slice none 0 0,.slice none 0 0,i64 0] false)] h)
     (fun j=>[(1,ah 5 az l),(2,ah 2 aP ts),(4,FP (ar c)),(7,FP (i64 most)),(8,.pointer (some ⟨g8,0,none⟩)),(9,.pointer (some ⟨g9,0,none⟩)),(10,ae 1 (some gL) ((List.range l.length).map i64)),(13,i64 (0*64)),(14,ah 2 aP ts),(15,.pointer (some ⟨gt,0,none⟩)),(38,i64 ((ts.length+64-1)/64)),(39,i64 0),(61,ae 1 (some gL) ((List.range l.length).map i64)),(62,i64 (List.range l.length).length),(63,i64 j)]) (fun j=>l.length-j) rfl ⟨0,⟨Nat.zero_le _,?_⟩,rfl,rfl,rfl,rfl,rfl,rfl,rfl,rfl,rfl,rfl,rfl,rfl,rfl,rfl,rfl,trivial⟩ ?_
    ·rw[oT,oT,hXFl,hXCl];exact O
    clear O;rintro j base h ⟨hj,O⟩;refine gX ?_;by_cases hlt:j<l.length
    ·refine bt ?_ (congrArg Value.bool (by show ltN j (List.range l.length).length=true;rw[hrR,aY];simp;omega));refine gX ?_;have hrj:(List.range l.length)[j]?=some j:=List.getElem?_range hlt;obtain⟨f,hf⟩:∃ f,l[j]?=some f:=⟨_,List.getElem?_eq_getElem hlt⟩;obtain⟨v,hv,hit⟩:=hr2 j f hf
     have hgl:((List.range l.length).map i64).length=l.length:=by rw[List.length_map,hrR]
     refine bb (s:=1) (j:=j) rfl rfl rfl rfl (by omega) ?_;refine gH ?_;refine ldE (s:=1) (i:=0) O.i3 hrj ?_;refine gH ?_;refine O.new (ai (l:=[i64 0]) rfl rfl rfl) fun gk h O=>?_;refine gH ?_;refine O.stC 1 (.head _) [i64 j] fun h O=>?_;refine gX ?_;have O:=O.sel [1,2,0,3,4,5,6] (by decide)
     have hXF:(bQ c l ts most).first[j]?=some (recAt v.testBit most ts.length).1:=by
      rw[Ci hit h2];unfold bQ;rw[List.getElem?_map,hf];rfl
     have hXC:(bQ c l ts most).count[j]?=some (recAt v.testBit most ts.length).2:=by
      rw[Ci hit h2];unfold bQ;rw[List.getElem?_map,hf];rfl
     obtain⟨u,h,cd,rfl,O⟩:=zG (n:=ts.length) (fault:=j) (N:=l.length) (T:=ts.length) (gx:=g9) hv h2 hm1 (qW (by omega)) (qW (by omega)) (by rw[xh (by omega),hXFl]) (by rw[xh (by omega),hXCl]) (.tail _ (.head _)) (.head _) (.tail _ (.tail _ (.tail _ (.head _)))) O;rw[qK hXF,qK hXC] at O;refine⟨_,_,cd,?_⟩;refine gX ?_;refine aH (a:=j) (b:=1) (W:=True) ⟨by omega,trivial⟩ fun _=>?_;refine gX ?_;exact⟨j+1,by show l.length-(j+1)<l.length-j;omega,⟨hlt,O.sel [0,1,3,4,5,6] (by decide)⟩,rfl,rfl,rfl,rfl,rfl,rfl,rfl,rfl,rfl,rfl,rfl,rfl,rfl,rfl,rfl,trivial⟩
    ·refine bf ?_ (congrArg Value.bool (by show ltN j (List.range l.length).length=false;rw[hrR,aY];simp;omega));refine gX ?_
     have:j=l.length:=by omega
     subst this
     have eF:eh (bQ c l ts most).first (-1) l.length=(bQ c l ts most).first:=by rw[<- hXFl];exact qS _ _
     have eC:eh (bQ c l ts most).count 0 l.length=(bQ c l ts most).count:=by rw[<- hXCl];exact qS _ _
     rw[eF,eC] at O;have O:=O.sel [3,4,0,1,5] (by decide)
     have eZ:((List.range l.length).map Int.ofNat).map z64=(List.range l.length).map i64:=by rw[List.map_map];rfl
     have hZl:((List.range l.length).map Int.ofNat).length=l.length:=by rw[List.length_map,hrR]
     obtain⟨u,h,cd,hu,z,hz,O⟩:=xG (gx:=g9) (most:=most) (g:=gL) (l:=(List.range l.length).map Int.ofNat) (p:=fun v=>eqN ((bQ c l ts most).count.getD v.toNat 0) most) (by omega) (by rw[eZ];exact O) fun x hx l' h _ O=>by
      obtain⟨i,hi,rfl⟩:=List.mem_map.1 hx;exact Bf (C:=(bQ c l ts most).count) (by rw[hXCl];exact List.mem_range.1 hi) hXCl.symm (.tail _ (.head _)) (.tail _ (.tail _ (.tail _ (.head _)))) O
     rw[eZ] at cd;subst hu;refine⟨_,_,cd,?_⟩;refine gX ?_;refine aH (a:=0) (b:=1) (W:=True) ⟨by decide,trivial⟩ fun _=>?_;refine gX ?_;exact⟨(1,_),by show 1-1<1-0;decide,.inr ⟨rfl,ht,⟨_,_,rfl⟩,O.tail⟩,rfl,rfl,rfl,rfl,rfl,rfl,rfl,rfl,rfl,trivial⟩
   ·have hq:(ts.length+64-1)/64=0:=by omega
    refine bf ?_ (congrArg Value.bool (by show ltN 0 ((ts.length+64-1)/64)=false;rw[hq];rfl));refine gX ?_
    have e0:ts.length=0:=by omega
    have eF:List.replicate l.length (-1:Int)=(bQ c l ts most).first:=by
     unfold bQ;dsimp only;rw[e0];exact (List.map_const' ..).symm
    have eC:List.replicate l.length 0=(bQ c l ts most).count:=by
     unfold bQ;dsimp only;rw[e0];exact (List.map_const' ..).symm
    rw[eF,eC] at O;have O:=O.tail
    have hXFl:(bQ c l ts most).first.length=l.length:=by unfold bQ;simp
    have hXCl:(bQ c l ts most).count.length=l.length:=by unfold bQ;simp
    refine ldA O.i0 ?_;refine gH ?_;refine O.stC 3 (.tail _ (.tail _ (.tail _ (.head _)))) [.slice (some ⟨gF,0,none⟩) l.length l.length,.slice (some ⟨gC,0,none⟩) l.length l.length,i64 ts.length] fun h O=>?_;refine gX ?_;refine⟨_,au rfl rfl O.i3 rfl rfl (lbE rfl) rfl,?_⟩;exact⟨bQ c l ts most,hk,O.ext,fun h2 F=>VLe.agg (LLe.cons (O.gA F (Nat.le_refl _) (.tail _ (.head _)) (fun _=>rfl) hXFl.symm) (LLe.cons (O.gA F (Nat.le_refl _) (.tail _ (.tail _ (.head _))) (fun _=>rfl) hXCl.symm) (LLe.cons (VLe.refl _ _) (LLe.nil _))))⟩
  ·dsimp only at hb hlv;subst hb hlv;refine gX ?_
   have hq:(ts.length+64-1)/64=1:=by omega
   refine bf ?_ (congrArg Value.bool (by show ltN 1 ((ts.length+64-1)/64)=false;rw[hq];rfl));refine gX ?_
   have hXFl:(bQ c l ts most).first.length=l.length:=by unfold bQ;simp
   have hXCl:(bQ c l ts most).count.length=l.length:=by unfold bQ;simp
   refine ldA O.i0 ?_;refine gH ?_;refine O.stC 3 (.tail _ (.tail _ (.tail _ (.head _)))) [.slice (some ⟨gF,0,none⟩) l.length l.length,.slice (some ⟨gC,0,none⟩) l.length l.length,i64 ts.length] fun h O=>?_;refine gX ?_;refine⟨_,au rfl rfl O.i3 rfl rfl (lbE rfl) rfl,?_⟩;exact⟨bQ c l ts most,hk,O.ext,fun h2 F=>VLe.agg (LLe.cons (O.gA F (Nat.le_refl _) (.tail _ (.head _)) (fun _=>rfl) hXFl.symm) (LLe.cons (O.gA F (Nat.le_refl _) (.tail _ (.tail _ (.head _))) (fun _=>rfl) hXCl.symm) (LLe.cons (VLe.refl _ _) (LLe.nil _))))⟩
set_option maxHeartbeats 8000000
def cK (p0:Circ) (p1:(List Flt)) (p2:(List Pat)) (K:Nat->Prop):Prop :=
 ((ltN 4096 p2.length)=true->K 3)/\((ltN 4096 p2.length)=false->fM p0 p1 ([]:(List Pat)) (fun r1=>an (α:=Bool) (fun k3=>((neN r1.2 0)=true->k3 true)/\((neN r1.2 0)=false->k3 (eqN p2.length 0))) (fun v2=>(v2=true->K r1.2)/\(v2=false->fM p0 ([]:(List Flt)) p2 (fun r4=>K r4.2)))))
theorem kb {p0:Circ}{p1:(List Flt)}{p2:(List Pat)}{K:Nat->Prop} (hm:cK p0 p1 p2 K) {h0:Heap} (hB:HasB vars h0):∃ r,K r/\CallD Tryz.prog NG 53 ⟨[ar p0,(ah 5 az) p1,(ah 2 aP) p2]⟩ h0 (i64 r) h0:=by
 unfold cK at hm
 refine fw Tryz.func53 hB (enc:=i64) (fun r=>PureV.flat rfl) fun O=>?_;conv=>whnf
 refine gX ?_;refine fz ?_;refine gX ?_;refine br hm (fun hm=>?_) fun hm=>?_
 ·refine gX ?_;exact fe hm O
 ·refine gX ?_;refine caW (ec hm O.has) (LLe.cons (VLe.refl _ _) (LLe.cons (VLe.refl _ _) (LLe.cons (VLe.nil _ _) (LLe.nil _)))) fun r1 hm=>?_;refine gH ?_
  apply Cs;conv=>whnf
  refine jn hm 33 [2,3,8] (fun s=>s) (fun v2 h=>Own vars h0 [] h) (fun v2=>[(24,(.bool v2))]) (fun hm=>?_) ?_
  ·refine gX ?_;refine br hm (fun hm=>?_) fun hm=>?_
   ·refine gX ?_;exact jx true hm O
   ·refine gX ?_;exact jx (eqN p2.length 0) hm O
  ·clear hm;rintro v2 base h hm O;refine gX ?_;refine br hm (fun hm=>?_) fun hm=>?_
   ·refine gX ?_;exact fe hm O
   ·refine gX ?_;refine caW (ec hm O.has) (LLe.cons (VLe.refl _ _) (LLe.cons (VLe.nil _ _) (LLe.cons (VLe.refl _ _) (LLe.nil _)))) fun r4 hm=>?_;refine gX ?_;exact fe hm O
def fm (p0:Circ) (p1:(List Flt)) (p2:(List Pat)) (K:(Ldg×Nat)->Prop):Prop :=
 cK p0 p1 p2 (fun r3=>((neN r3 0)=true->K ((⟨[],[],0⟩:Ldg),r3))/\((neN r3 0)=false->p2.length+1<2 ^ 63/\jf p0 p1 p2 (p2.length+1) (fun r4=>K (r4,0))))
theorem sv {p0:Circ}{p1:(List Flt)}{p2:(List Pat)}{K:(Ldg×Nat)->Prop} (hm:fm p0 p1 p2 K) {h0:Heap} (hB:HasB vars h0):∃ r,K r/\CallD Tryz.prog NG 16 ⟨[ar p0,(ah 5 az) p1,(ah 2 aP) p2]⟩ h0 ((fun (r:(Ldg×Nat))=>Value.tuple ⟨[dR (r.1),i64 (r.2)]⟩) r) h0:=by
 unfold fm at hm
 refine fw Tryz.func16 hB (enc:=(fun (r:(Ldg×Nat))=>Value.tuple ⟨[dR (r.1),i64 (r.2)]⟩)) (fun r=>PureV.tup (AllPure.cons (th _) (AllPure.cons (PureV.flat rfl) (AllPure.nil)))) fun O=>?_;conv=>whnf
 refine gX ?_;refine fz ?_;refine gH ?_;refine O.new (ai (l:=[(.slice none 0 0),(.slice none 0 0),(i64 0)]) rfl rfl rfl) fun g1 h O=>?_;refine gH ?_;refine gX ?_;refine ca (kb hm O.has) fun r3 hm=>?_;refine gX ?_;refine br hm (fun hm=>?_) fun hm=>?_
 ·refine gX ?_;refine O.stC 3 (.head _) [(.slice none 0 0),(.slice none 0 0),(i64 0)] fun h O=>?_;refine gX ?_
  refine⟨_,au rfl rfl O.i0 rfl rfl (lbE rfl) rfl,?_⟩;conv=>whnf
  exact⟨((⟨[],[],0⟩:Ldg),r3),hm,O.ext,fun h2 F=>VLe.tup (LLe.cons (VLe.agg (LLe.cons (VLe.nil _ _) (LLe.cons (VLe.nil _ _) (LLe.cons (VLe.refl _ _) (LLe.nil _))))) (LLe.cons (VLe.refl _ _) (LLe.nil _)))⟩
 ·refine gX ?_;refine aH hm fun hm=>?_;refine gH ?_;refine ca (kC hm O.has) fun r4 hm=>?_;refine gH ?_;refine O.stC 3 (.head _) [((ah 1 z64) r4.first),((ah 1 i64) r4.count),(i64 r4.tests)] fun h O=>?_;refine gX ?_
  refine⟨_,au rfl rfl O.i0 rfl rfl (lbE rfl) rfl,?_⟩;conv=>whnf
  exact⟨(r4,0),hm,O.ext,fun h2 F=>VLe.tup (LLe.cons (VLe.refl _ _) (LLe.cons (VLe.refl _ _) (LLe.nil _)))⟩
def dU (p0:Circ) (p1:(List Flt)) (p2:(List Pat)) (p3:Nat) (K:(Ldg×Nat)->Prop):Prop :=
 cK p0 p1 p2 (fun r3=>((neN r3 0)=true->K ((⟨[],[],0⟩:Ldg),r3))/\((neN r3 0)=false->((ltN p3 1)=true->K ((⟨[],[],0⟩:Ldg),1))/\((ltN p3 1)=false->jf p0 p1 p2 p3 (fun r4=>K (r4,0)))))
theorem pJ {p0:Circ}{p1:(List Flt)}{p2:(List Pat)}{p3:Nat}{K:(Ldg×Nat)->Prop} (hm:dU p0 p1 p2 p3 K) {h0:Heap} (hB:HasB vars h0):∃ r,K r/\CallD Tryz.prog NG 23 ⟨[ar p0,(ah 5 az) p1,(ah 2 aP) p2,i64 p3]⟩ h0 ((fun (r:(Ldg×Nat))=>Value.tuple ⟨[dR (r.1),i64 (r.2)]⟩) r) h0:=by
 unfold dU at hm
 refine fw Tryz.func23 hB (enc:=(fun (r:(Ldg×Nat))=>Value.tuple ⟨[dR (r.1),i64 (r.2)]⟩)) (fun r=>PureV.tup (AllPure.cons (th _) (AllPure.cons (PureV.flat rfl) (AllPure.nil)))) fun O=>?_;conv=>whnf
 refine gX ?_;refine fz ?_;refine gH ?_;refine O.new (ai (l:=[(.slice none 0 0),(.slice none 0 0),(i64 0)]) rfl rfl rfl) fun g1 h O=>?_;refine gH ?_;refine gX ?_;refine ca (kb hm O.has) fun r3 hm=>?_;refine gX ?_;refine br hm (fun hm=>?_) fun hm=>?_
 ·refine gX ?_;refine O.stC 3 (.head _) [(.slice none 0 0),(.slice none 0 0),(i64 0)] fun h O=>?_;refine gX ?_
  refine⟨_,au rfl rfl O.i0 rfl rfl (lbE rfl) rfl,?_⟩;conv=>whnf
  exact⟨((⟨[],[],0⟩:Ldg),r3),hm,O.ext,fun h2 F=>VLe.tup (LLe.cons (VLe.agg (LLe.cons (VLe.nil _ _) (LLe.cons (VLe.nil _ _) (LLe.cons (VLe.refl _ _) (LLe.nil _))))) (LLe.cons (VLe.refl _ _) (LLe.nil _)))⟩
 ·refine gX ?_;refine br hm (fun hm=>?_) fun hm=>?_
  ·refine gX ?_;refine O.stC 3 (.head _) [(.slice none 0 0),(.slice none 0 0),(i64 0)] fun h O=>?_;refine gX ?_
   refine⟨_,au rfl rfl O.i0 rfl rfl (lbE rfl) rfl,?_⟩;conv=>whnf
   exact⟨((⟨[],[],0⟩:Ldg),1),hm,O.ext,fun h2 F=>VLe.tup (LLe.cons (VLe.agg (LLe.cons (VLe.nil _ _) (LLe.cons (VLe.nil _ _) (LLe.cons (VLe.refl _ _) (LLe.nil _))))) (LLe.cons (VLe.refl _ _) (LLe.nil _)))⟩
  ·refine gX ?_;refine ca (kC hm O.has) fun r4 hm=>?_;refine gH ?_;refine O.stC 3 (.head _) [((ah 1 z64) r4.first),((ah 1 i64) r4.count),(i64 r4.tests)] fun h O=>?_;refine gX ?_
   refine⟨_,au rfl rfl O.i0 rfl rfl (lbE rfl) rfl,?_⟩;conv=>whnf
   exact⟨(r4,0),hm,O.ext,fun h2 F=>VLe.tup (LLe.cons (VLe.refl _ _) (LLe.cons (VLe.refl _ _) (LLe.nil _)))⟩
end Go.Proofs.YtgiedjgdlckahaaGreatDoor
