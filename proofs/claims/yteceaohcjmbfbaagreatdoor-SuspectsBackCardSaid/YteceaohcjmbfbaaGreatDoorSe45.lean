/-
  U2, U3, J0: parts of the proof.
-/
import Derived.Test.YteceaohcjmbfbaaGreatDoorSe44
namespace Go.Proofs.YteceaohcjmbfbaaGreatDoor
open Go.Abs
set_option maxRecDepth 100000
theorem og {c:Circ}{K:List Nat->Prop} (hc:c.nodes.length<2 ^ 40) (h:K (ofN c [0])):aT c K:=Aa hc (by decide) h
theorem ic {c:Circ}{K:List Nat->Prop} (hc:c.nodes.length<2 ^ 40) (h:K (ofN c [14])):aH c K:=Aa hc (by decide) h
theorem cB {c:Circ}{k f:Nat}:f∈ofN c [k]↔f<c.nodes.length/\kd c f=k:=by
 unfold ofN kd
 rw[List.mem_filter,List.mem_range]
 simp only[List.contains_cons,List.contains_nil,Bool.or_false,beq_iff_eq]
theorem eT (c:Circ) (ks:List Nat):(ofN c ks).length<=c.nodes.length:=by
 unfold ofN;exact Nat.le_trans (List.length_filter_le _ _) (by simp)
theorem ib (c:Circ) (ks:List Nat):(ofN c ks).Nodup:=List.Pairwise.filter _ List.nodup_range
structure Cir (c:Circ):Prop where
 good:Good c
 mems:c.mems=[]
 kinds:∀ (i:Nat) (x:Node),c.nodes[i]?=some x->x.kind<=14
theorem Cir.len {c:Circ} (C:Cir c):c.nodes.length<=16:=C.good.len
theorem wV {c:Circ}{o:List Nat} (h:OrdOk c o) {a b m:Nat} (h1:o[a]?=some m) (h2:o[b]?=some m):a=b:=by
 have hn:o.Nodup:=h.perm.nodup_iff.2 List.nodup_range
 obtain⟨q1,q2⟩:=List.getElem?_eq_some_iff.1 h1
 obtain⟨q3,q4⟩:=List.getElem?_eq_some_iff.1 h2
 rcases Nat.lt_trichotomy a b with q|q|q
 ·exact absurd (q2.trans q4.symm) (List.pairwise_iff_getElem.1 hn a b q1 q3 q)
 ·exact q
 ·exact absurd (q4.trans q2.symm) (List.pairwise_iff_getElem.1 hn b a q3 q1 q)
structure PatOk (c:Circ) (p:Pat):Prop where
 inp:p.inp.length=(ofN c [0]).length
 state:p.state.length=(ofN c [14]).length
 inpv:∀ v∈p.inp,v<=3
 statev:∀ v∈p.state,v<=3
theorem mT {l:List Nat}{K:Bool->Prop} (hl:l.length<2 ^ 60) (hv:∀ v∈l,v<=3) (h:K false):cG l K:=by
 unfold cG dZ
 refine gB (l:=l) ?_ ?_ h
 ·intro k i nx x hx hi hn
  have hv:=hv x (List.mem_of_getElem? hx)
  refine⟨fun _=>⟨x,hx,fun q=>?_,fun _=>⟨by omega,hn⟩⟩,fun q=>?_⟩
  ·have:=aJ.1 q;omega
  ·have:=aU.1 q;omega
 ·intro k i nx hi hk
  refine⟨fun q=>?_,fun _=>hk⟩
  have:=aJ.1 q;omega
theorem Cir.sl {c:Circ} (C:Cir c):ofN c [15]=[]:=by
 refine List.eq_nil_iff_forall_not_mem.2 fun i m=>?_
 obtain⟨h1,h2⟩:=cB.1 m
 obtain⟨y,hy⟩:=au h1
 rw[gL hy] at h2
 have:=C.kinds i y hy
 omega
theorem xu {c:Circ} (C:Cir c) {pt:Pat} (hp:PatOk c pt) {K:Nat->Prop} (h:K 0):dY c pt K:=by
 have hlen:=C.len
 have l1:=eT c [0]
 have l2:=eT c [14]
 have h1:=hp.inp
 have h2:=hp.state
 unfold dY
 refine bx (a:=false) (fun F=>⟨fun q=>?_,fun _=>Aa (by omega) (by decide) ?_⟩) ⟨(fun e=>by cases e),fun _=>?_⟩
 ·rw[C.mems] at q;exact absurd (aJ.1 q) (by simp)
 ·rw[C.sl];exact F
 refine bx (a:=false) (fun F=>og (by omega) ⟨fun q=>absurd h1 (eL.1 q),fun _=>ic (by omega) ?_⟩) ⟨(fun e=>by cases e),fun _=>?_⟩
 ·rw[pv.2 h2];exact F
 refine bx (a:=false) (fun F=>mT (by omega) hp.inpv ⟨(fun e=>by cases e),fun _=>mT (by omega) hp.statev F⟩) ⟨(fun e=>by cases e),fun _=>h⟩
def combB (k:Nat):Bool:=decide (1<=k/\k<=13)
def ft (pn:Nat->Nat->Nat->Nat) (t:List Nat) (m:Nat) (x:Node):List Nat:=x.ins.mapIdx fun j k=>pn m j (t.getD k 0)
def srcV (c:Circ) (p:Pat) (i:Nat):Nat:=if kd c i=0 then p.inp.getD ((ofN c [0]).idxOf i) 0 else if kd c i=14 then p.state.getD ((ofN c [14]).idxOf i) 0 else 0
def baseV (c:Circ) (p:Pat) (pn:Nat->Nat->Nat->Nat) (t:List Nat) (m:Nat) (x:Node):Nat:=if combB x.kind=true then jI x.kind (ft pn t m x) else srcV c p m
structure Sol (c:Circ) (p:Pat) (nt:Nat->Nat->Nat) (pn:Nat->Nat->Nat->Nat) (t:List Nat):Prop where
 len:t.length=c.nodes.length
 val:∀ i x,c.nodes[i]?=some x->t.getD i 0=nt i (baseV c p pn t i x)
 le:∀ i,t.getD i 0<=3
theorem gk {pn:Nat->Nat->Nat->Nat}{t:List Nat}{m:Nat}{x:Node}:(ft pn t m x).length=x.ins.length:=by unfold ft;simp
theorem ly {pn:Nat->Nat->Nat->Nat}{t:List Nat}{m j y:Nat}{x:Node} (h:x.ins[j]?=some y):(ft pn t m x)[j]?=some (pn m j (t.getD y 0)):=by
 unfold ft;rw[List.getElem?_mapIdx,h];rfl
theorem kr {pn:Nat->Nat->Nat->Nat}{t u:List Nat}{m:Nat}{x:Node} (h:∀ k∈x.ins,t.getD k 0=u.getD k 0):ft pn t m x=ft pn u m x:=by
 unfold ft
 refine List.ext_getElem (by simp) fun i a b=>?_
 simp only[List.getElem_mapIdx]
 rw[h _ (List.getElem_mem _)]
theorem Ak {pn:Nat->Nat->Nat->Nat} (hp:∀ m j v,v<=3->pn m j v<=3) {t:List Nat} (ht:∀ i,t.getD i 0<=3) {m:Nat}{x:Node}:∀ v∈ft pn t m x,v<=3:=by
 intro v h
 unfold ft at h
 rw[List.mem_mapIdx] at h
 obtain⟨i,hi,rfl⟩:=h
 exact hp _ _ _ (ht _)
theorem Sol.eq {c:Circ} (C:Cir c) {p:Pat}{nt:Nat->Nat->Nat}{pn:Nat->Nat->Nat->Nat}{t u:List Nat} (T:Sol c p nt pn t) (U:Sol c p nt pn u):t=u:=by
 have key:∀ n i,i<n->t.getD i 0=u.getD i 0:=by
  intro n
  induction n with
  |zero=>intro i h;omega
  |succ n ih =>
   intro i hi
   by_cases q:i<c.nodes.length
   ·obtain⟨x,hx⟩:=au q
    rw[T.val i x hx,U.val i x hx]
    congr 1
    unfold baseV
    split
    ·rename_i hc
     have hc:=of_decide_eq_true hc
     rw[kr fun k m=>ih k ?_]
     have:=(C.good.node i x hx).acyc hc.1 hc.2 k m
     omega
    ·rfl
   ·rw[List.getD,List.getD,List.getElem?_eq_none (by rw[T.len];omega),List.getElem?_eq_none (by rw[U.len];omega)]
 refine List.ext_getElem (T.len.trans U.len.symm) fun i a b=>?_
 have:=key (i+1) i (by omega)
 rw[List.getD,List.getElem?_eq_getElem a,List.getD,List.getElem?_eq_getElem b] at this
 exact this
theorem pT {n:Nat}{ixs vs:List Nat} (_hn:n<=16) (_hix:ixs.length<=n) (hl:vs.length=ixs.length) (_hb:∀ f∈ixs,f<n) (nd:ixs.Nodup) {t0:List Nat} (ht0:t0.length=n) {rest:List Nat->Prop}{body:List Nat×Nat->(List Nat×Nat->Prop)->Prop}
  (hbody:∀ t i nx,t.length=n->(∀ f v,i<ixs.length->ixs[i]?=some f->vs[i]?=some v->f<n->nx (t.set f v,i+1))->(ixs.length<=i->rest t)->body (t,i) nx)
  (h:∀ t,t.length=n->(∀ j f,ixs[j]?=some f->t.getD f 0=vs.getD j 0)->(∀ f,f ∉ ixs->t.getD f 0=t0.getD f 0)->rest t):av body (t0,0):=by
 refine bn (fun s=>s.2<=ixs.length/\s.1.length=n/\(∀ j f,j<s.2->ixs[j]?=some f->s.1.getD f 0=vs.getD j 0)/\∀ f,f ∉ ixs.take s.2->s.1.getD f 0=t0.getD f 0) (fun s=>ixs.length-s.2) ?_ ⟨Nat.zero_le _,ht0,(fun j f hj=>absurd hj (Nat.not_lt_zero _)),fun _ _=>rfl⟩
 rintro⟨t,i⟩ nx ⟨hi,h1,h2,h3⟩ hnx
 dsimp only at hi h1 h2 h3
 refine hbody t i nx h1 (fun f v q hf hv hfn=>?_) (fun q=>?_)
 ·obtain⟨e1,e2⟩:=List.getElem?_eq_some_iff.1 hf
  have ev:v=vs.getD i 0:=by rw[List.getD,hv];rfl
  subst ev
  refine hnx _ ⟨q,by simp[h1],fun j g hj hg=>?_,fun g hg=>?_⟩ (by dsimp only;omega)
  ·dsimp only at hj ⊢
   rw[cd (by omega)]
   by_cases e:f=g
   ·subst e
    have:j=i:=by
     obtain⟨e3,e4⟩:=List.getElem?_eq_some_iff.1 hg
     rcases Nat.lt_trichotomy j i with w|w|w
     ·exact absurd (e4.trans e2.symm) (List.pairwise_iff_getElem.1 nd j i e3 e1 w)
     ·exact w
     ·omega
    subst this
    rw[if_pos rfl]
   ·rw[if_neg e]
    refine h2 j g ?_ hg
    by_cases e3:j=i
    ·subst e3;rw[hf] at hg;cases hg;exact absurd rfl e
    ·omega
  ·dsimp only at hg ⊢
   rw[List.take_succ_eq_append_getElem e1,List.mem_append,List.mem_singleton,e2] at hg
   rw[cd (by omega),if_neg (fun e=>hg (.inr e.symm))]
   exact h3 g fun m=>hg (.inl m)
 ·rw[List.take_of_length_le q] at h3
  exact h t h1 (fun j f hj=>h2 j f (by have:=ak hj;omega) hj) h3
theorem mU {n:Nat}{ixs vs t:List Nat}{i:Nat}{rest:Prop}{nx:List Nat×Nat->Prop} (hn:n<=16) (hix:ixs.length<=n) (hl:vs.length=ixs.length) (hb:∀ f∈ixs,f<n) (ht:t.length=n) (h1:∀ f v,i<ixs.length->ixs[i]?=some f->vs[i]?=some v->f<n->nx (t.set f v,i+1)) (h2:ixs.length<=i->rest) :
  ((ltN i ixs.length)=true->∃ x35,ixs[i]?=some x35/\∃ x36,vs[i]?=some x36/\x35<n/\∃ x37,t[x35]?=some x37/\i+1<2 ^ 63/\nx ((t.set x35 x36),(i+1)))/\((ltN i ixs.length)=false->rest):=by
 refine⟨fun q=>?_,fun q=>h2 (aU.1 q)⟩
 have q:i<ixs.length:=aJ.1 q
 obtain⟨f,hf⟩:=au q
 have hfn:=hb f (List.mem_of_getElem? hf)
 have hv:=getD_some (l:=vs) (i:=i) (by omega)
 exact⟨f,hf,_,hv,hfn,_,fa ht hfn,by omega,h1 f _ q hf hv hfn⟩
theorem zI {l:List Nat} (nd:l.Nodup) {j f:Nat} (h:l[j]?=some f):l.idxOf f=j:=by
 obtain⟨h1,rfl⟩:=List.getElem?_eq_some_iff.1 h
 exact nd.idxOf_getElem j h1
theorem yZ {c:Circ} (C:Cir c) {p:Pat} (hp:PatOk c p) {t1 t2:List Nat} (_l2:t2.length=c.nodes.length) (h1:∀ j f,(ofN c [0])[j]?=some f->t1.getD f 0=p.inp.getD j 0) (h2:∀ j f,(ofN c [14])[j]?=some f->t2.getD f 0=p.state.getD j 0) (h3:∀ f,f ∉ ofN c [14]->t2.getD f 0=t1.getD f 0) :
  ∀ i x,c.nodes[i]?=some x->combB x.kind=false->t2.getD i 0=srcV c p i/\t2.getD i 0<=3:=by
 intro i x hx hc
 have hc:=of_decide_eq_false hc
 have hk:=C.kinds i x hx
 have hi:=ak hx
 have e:=gL hx
 unfold srcV
 by_cases k0:x.kind=0
 ·have m:i∈ofN c [0]:=cB.2 ⟨hi,by rw[e];exact k0⟩
  obtain⟨j,hj,ej⟩:=List.getElem_of_mem m
  have hj':(ofN c [0])[j]?=some i:=by rw[List.getElem?_eq_getElem hj,ej]
  have hn:i ∉ ofN c [14]:=fun q=>by have:=(cB.1 q).2;omega
  rw[h3 i hn,h1 j i hj',if_pos (by rw[e];exact k0),zI (ib c [0]) hj']
  exact⟨rfl,hp.inpv _ (jy (by rw[hp.inp];exact hj))⟩
 ·have k14:x.kind=14:=by omega
  have m:i∈ofN c [14]:=cB.2 ⟨hi,by rw[e];exact k14⟩
  obtain⟨j,hj,ej⟩:=List.getElem_of_mem m
  have hj':(ofN c [14])[j]?=some i:=by rw[List.getElem?_eq_getElem hj,ej]
  rw[h2 j i hj',if_neg (by rw[e];exact k0),if_pos (by rw[e];exact k14),zI (ib c [14]) hj']
  exact⟨rfl,hp.statev _ (jy (by rw[hp.state];exact hj))⟩
structure RunS (c:Circ) (p:Pat) (nt:Nat->Nat->Nat) (pn:Nat->Nat->Nat->Nat) (o t:List Nat) (i:Nat):Prop where
 len:t.length=c.nodes.length
 done:∀ j m x,j<i->o[j]?=some m->c.nodes[m]?=some x->t.getD m 0=nt m (baseV c p pn t m x)
 todo:∀ j m x,i<=j->o[j]?=some m->c.nodes[m]?=some x->combB x.kind=false->t.getD m 0=srcV c p m
 le:∀ i,t.getD i 0<=3
theorem RunS.step {c:Circ}{p:Pat}{nt:Nat->Nat->Nat}{pn:Nat->Nat->Nat->Nat}{o t:List Nat} (ho:OrdOk c o) {i m:Nat}{x:Node} (T:RunS c p nt pn o t i) (hm:o[i]?=some m) (hx:c.nodes[m]?=some x) (hle:nt m (baseV c p pn t m x)<=3):RunS c p nt pn o (t.set m (nt m (baseV c p pn t m x))) (i+1):=by
 have hml:m<t.length:=by rw[T.len];exact ak hx
 have same:∀ (j m':Nat) (x':Node),j<=i->o[j]?=some m'->c.nodes[m']?=some x'->baseV c p pn (t.set m (nt m (baseV c p pn t m x))) m' x'=baseV c p pn t m' x':=by
  intro j m' x' hj h1 h2
  unfold baseV
  split
  ·rename_i hc
   have hc:=of_decide_eq_true hc
   rw[kr fun k hk=>?_]
   rw[cd hml,if_neg]
   rintro rfl
   obtain⟨b',hb,hb2⟩:=ho.before j m' x' m h1 h2 hc hk
   have:=wV ho hb2 hm
   omega
  ·rfl
 refine⟨by rw[List.length_set];exact T.len,fun j m' x' hj h1 h2=>?_,fun j m' x' hj h1 h2 h3=>?_,fun k=>?_⟩
 ·rw[same j m' x' (by omega) h1 h2,cd hml]
  by_cases e:m=m'
  ·subst e
   rw[if_pos rfl]
   rw[hx] at h2;cases h2
   rfl
  ·rw[if_neg e]
   refine T.done j m' x' ?_ h1 h2
   by_cases e2:j=i
   ·subst e2;rw[hm] at h1;cases h1;exact absurd rfl e
   ·omega
 ·rw[cd hml,if_neg]
  ·exact T.todo j m' x' (by omega) h1 h2 h3
  ·rintro rfl
   have:=wV ho hm h1
   omega
 ·rw[cd hml]
  split
  ·exact hle
  ·exact T.le k
theorem RunS.skip {c:Circ}{p:Pat}{nt:Nat->Nat->Nat}{pn:Nat->Nat->Nat->Nat}{o t:List Nat}{i m:Nat}{x:Node} (T:RunS c p nt pn o t i) (hm:o[i]?=some m) (hx:c.nodes[m]?=some x) (he:t.getD m 0=nt m (baseV c p pn t m x)):RunS c p nt pn o t (i+1):=by
 refine⟨T.len,fun j m' x' hj h1 h2=>?_,fun j m' x' hj=>T.todo j m' x' (by omega),T.le⟩
 by_cases e:j=i
 ·subst e
  rw[hm] at h1;cases h1
  rw[hx] at h2;cases h2
  exact he
 ·exact T.done j m' x' (by omega) h1 h2
theorem RunS.sol {c:Circ}{p:Pat}{nt:Nat->Nat->Nat}{pn:Nat->Nat->Nat->Nat}{o t:List Nat} (ho:OrdOk c o) (T:RunS c p nt pn o t o.length):Sol c p nt pn t:=by
 refine⟨T.len,fun i x hx=>?_,T.le⟩
 have hm:i∈o:=ho.perm.mem_iff.2 (List.mem_range.2 (ak hx))
 obtain⟨j,hj,e⟩:=List.getElem_of_mem hm
 exact T.done j i x hj (by rw[List.getElem?_eq_getElem hj,e]) hx
def fW (c:Circ) (pn:Nat->Nat->Nat->Nat) (t:List Nat):Rsp:=⟨c.outs.map fun o=>t.getD o 0,(ofN c [14]).map fun s=>min (pn s 0 (t.getD ((insOf c s).getD 0 0) 0)) 2⟩
def idN:Nat->Nat->Nat:=fun _ v=>v
def idP:Nat->Nat->Nat->Nat:=fun _ _ v=>v
theorem vB {r:SRun}{n:Nat} (hn:n<r.nets.length) (hv:r.nets.getD n 0<=3) {K:Nat->Prop} (h:K (r.nets.getD n 0)):eh r n K:=by
 unfold eh
 refine bx (a:=false) (fun F=>⟨fun q=>absurd (aJ.1 q) (Nat.not_lt_zero _),fun _=>?_⟩) ⟨(fun e=>by cases e),fun _=>⟨_,getD_some hn,uX ?_⟩⟩
 ·rw[show (!ltN n r.nets.length)=false from ma.2 hn];exact F
 ·unfold mR;rw[if_neg (by omega)];exact h
theorem fE {c:Circ}{i:Nat}{x:Node} (h:c.nodes[i]?=some x):insOf c i=x.ins:=by unfold insOf;rw[List.getD,List.getElem?_map,h];rfl
theorem wj {c:Circ} (C:Cir c) {t:List Nat} (ht:t.length=c.nodes.length) (hle:∀ i,t.getD i 0<=3) {K:Rsp->Prop} (h:K (fW c idP t)):dU ⟨c,t⟩ K:=by
 have hlen:=C.len
 have hol:=C.good.outsLen
 have l2:=eT c [14]
 unfold dU
 refine ay (fun s=>s.2<=c.outs.length/\s.1=(c.outs.take s.2).map fun o=>t.getD o 0) (fun s=>c.outs.length-s.2) (fun a=>a=c.outs.map fun o=>t.getD o 0) ?_ ⟨Nat.zero_le _,rfl⟩ ?_
 ·rintro k ⟨l,i⟩ nx ⟨hi,hl⟩ hnx hk
  dsimp only at hi hl
  refine⟨fun q=>?_,fun q=>hk _ ?_⟩
  ·have q:i<c.outs.length:=aJ.1 q
   obtain⟨o,ho⟩:=au q
   obtain⟨e1,e2⟩:=List.getElem?_eq_some_iff.1 ho
   have hon:o<t.length:=by rw[ht];exact C.good.outs o (List.mem_of_getElem? ho)
   refine⟨o,ho,vB (r:=⟨c,t⟩) hon (hle o) ⟨by rw[hl];simp only[List.length_map,List.length_take,List.length_singleton];omega,by omega,hnx _ ⟨q,?_⟩ (by dsimp only;omega)⟩⟩
   dsimp only
   rw[hl,List.take_succ_eq_append_getElem e1,List.map_append,e2]
   rfl
  ·have q:c.outs.length<=i:=aU.1 q
   rw[hl,List.take_of_length_le q]
 rintro _ rfl
 refine dD (ic (show c.nodes.length<2 ^ 40 by omega) ?_)
 refine bn (fun s=>s.2<=(ofN c [14]).length/\s.1=((ofN c [14]).take s.2).map fun s=>min (t.getD ((insOf c s).getD 0 0) 0) 2) (fun s=>(ofN c [14]).length-s.2) ?_ ⟨Nat.zero_le _,rfl⟩
 rintro⟨l,i⟩ nx ⟨hi,hl⟩ hnx
 dsimp only at hi hl
 refine⟨fun q=>?_,fun q=>?_⟩
 ·have q:i<(ofN c [14]).length:=aJ.1 q
  obtain⟨f,hf⟩:=au q
  obtain⟨e1,e2⟩:=List.getElem?_eq_some_iff.1 hf
  obtain⟨hfn,hfk⟩:=cB.1 (List.mem_of_getElem? hf)
  obtain⟨x,hx⟩:=au hfn
  rw[gL hx] at hfk
  have hg:=C.good.node f x hx
  have ha:x.ins.length=1:=by have:=hg.arity;rw[hfk] at this;exact oc this
  have hd:=hg.ins (x.ins.getD 0 0) (jy (by omega))
  refine⟨f,hf,dD ⟨x,hx,fun _=>⟨_,getD_some (by omega),vB (r:=⟨c,t⟩) (by rw[ht];exact hd) (hle _) ?_⟩,fun e=>absurd ha (bM.1 e)⟩⟩
  unfold bA
  refine⟨by rw[hl];simp only[List.length_map,List.length_take,List.length_singleton];omega,by omega,hnx _ ⟨q,?_⟩ (by dsimp only;omega)⟩
  dsimp only
  rw[hl,List.take_succ_eq_append_getElem e1,List.map_append,e2]
  simp only[List.map_cons,List.map_nil,fE hx]
 ·have q:(ofN c [14]).length<=i:=aU.1 q
  rw[hl,List.take_of_length_le q]
  exact h
def mN (c:Circ) (p:Pat) (nt:Nat->Nat->Nat) (pn:Nat->Nat->Nat->Nat):Nat->List Nat
 |0=>[]
 |i+1=>mN c p nt pn i++[match c.nodes[i]? with|some x=>nt i (baseV c p pn (mN c p nt pn i) i x) | none=>0]
def sol (c:Circ) (p:Pat) (nt:Nat->Nat->Nat) (pn:Nat->Nat->Nat->Nat):List Nat:=mN c p nt pn c.nodes.length
theorem fK {c:Circ}{p:Pat}{nt:Nat->Nat->Nat}{pn:Nat->Nat->Nat->Nat}:∀ n,(mN c p nt pn n).length=n
 |0=>rfl
 |n+1=>by rw[mN,List.length_append,fK n];rfl
theorem qR {c:Circ}{p:Pat}{nt:Nat->Nat->Nat}{pn:Nat->Nat->Nat->Nat}{i:Nat}:∀ {n},i<n->(mN c p nt pn n).getD i 0=(mN c p nt pn (i+1)).getD i 0:=by
 intro n
 induction n with
 |zero=>intro h;omega
 |succ n ih =>
  intro h
  by_cases e:i=n
  ·subst e;rfl
  ·rw[<- ih (by omega)]
   rw[mN,List.getD,List.getD,List.getElem?_append_left (by rw[fK];omega)]
theorem sS {c:Circ}{p:Pat}{nt:Nat->Nat->Nat}{pn:Nat->Nat->Nat->Nat}{i:Nat}{x:Node} (hx:c.nodes[i]?=some x):(mN c p nt pn (i+1)).getD i 0=nt i (baseV c p pn (mN c p nt pn i) i x):=by
 rw[mN,List.getD,List.getElem?_append_right (by rw[fK];omega),fK,Nat.sub_self,hx]
 rfl
theorem As {c:Circ}{p:Pat} (hp:PatOk c p) (i:Nat):srcV c p i<=3:=by
 unfold srcV
 have key:∀ (l:List Nat) (j:Nat),(∀ v∈l,v<=3)->l.getD j 0<=3:=by
  intro l j h
  by_cases q:j<l.length
  ·exact h _ (jy q)
  ·rw[List.getD,List.getElem?_eq_none (by omega)];exact Nat.zero_le _
 split
 ·exact key _ _ hp.inpv
 split
 ·exact key _ _ hp.statev
 ·omega
theorem jE {c:Circ}{p:Pat} (hp:PatOk c p) {pn:Nat->Nat->Nat->Nat} (h2:∀ m j v,v<=3->pn m j v<=3) {t:List Nat} (ht:∀ i,t.getD i 0<=3) (i:Nat) (x:Node):baseV c p pn t i x<=3:=by
 unfold baseV
 split
 ·exact ui _ (Ak h2 ht)
 ·exact As hp i
theorem tM {c:Circ}{p:Pat} (hp:PatOk c p) {nt:Nat->Nat->Nat}{pn:Nat->Nat->Nat->Nat} (h1:∀ i v,v<=3->nt i v<=3) (h2:∀ m j v,v<=3->pn m j v<=3):∀ n i,(mN c p nt pn n).getD i 0<=3
 |0,i=>by rw[mN];simp
 |n+1,i=>by
  by_cases q:i<n
  ·rw[mN,List.getD,List.getElem?_append_left (by rw[fK];omega)]
   exact tM hp h1 h2 n i
  by_cases e:i=n
  ·subst e
   cases hx:c.nodes[i]? with
   |none =>
    rw[mN,List.getD,List.getElem?_append_right (by rw[fK];omega),fK,Nat.sub_self,hx]
    exact Nat.zero_le _
   |some x =>
    rw[sS hx]
    exact h1 _ _ (jE hp h2 (tM hp h1 h2 i) _ _)
  ·rw[List.getD,List.getElem?_eq_none (by rw[fK];omega)]
   exact Nat.zero_le _
theorem jk {c:Circ} (C:Cir c) {p:Pat} (hp:PatOk c p) {nt:Nat->Nat->Nat}{pn:Nat->Nat->Nat->Nat} (h1:∀ i v,v<=3->nt i v<=3) (h2:∀ m j v,v<=3->pn m j v<=3):Sol c p nt pn (sol c p nt pn):=by
 refine⟨fK _,fun i x hx=>?_,tM hp h1 h2 _⟩
 have hi:=ak hx
 unfold sol
 rw[qR hi,sS hx]
 congr 1
 unfold baseV
 split
 ·rename_i hc
  have hc:=of_decide_eq_true hc
  congr 1
  refine kr fun k hk=>?_
  have:=(C.good.node i x hx).acyc hc.1 hc.2 k hk
  rw[qR this,<- qR (n:=c.nodes.length) (by omega)]
 ·rfl
theorem Sol.is {c:Circ} (C:Cir c) {p:Pat} (hp:PatOk c p) {nt:Nat->Nat->Nat}{pn:Nat->Nat->Nat->Nat} (h1:∀ i v,v<=3->nt i v<=3) (h2:∀ m j v,v<=3->pn m j v<=3) {t:List Nat} (T:Sol c p nt pn t):t=sol c p nt pn:=T.eq C (jk C hp h1 h2)
theorem evalNode {c:Circ} (C:Cir c) {m:Nat}{x:Node} (hx:c.nodes[m]?=some x) (hc:combB x.kind=true) {l:List Nat} (hl:l.length=x.ins.length) {K:Nat->Prop} (h:K (jI x.kind l)):aS x.kind l K:=by
 have hc:=of_decide_eq_true hc
 have g:=C.good.node m x hx
 have:=g.few
 exact qd hc.1 (by omega) (by rw[hl];exact g.arity) (by omega) h
theorem um {c:Circ} (C:Cir c) {p:Pat}{t1 t2:List Nat} (hp:PatOk c p) (l2:t2.length=c.nodes.length) (h1:∀ j f,(ofN c [0])[j]?=some f->t1.getD f 0=p.inp.getD j 0) (h0:∀ f,f ∉ ofN c [0]->t1.getD f 0=(List.replicate c.nodes.length 0).getD f 0)
  (h2:∀ j f,(ofN c [14])[j]?=some f->t2.getD f 0=p.state.getD j 0) (h3:∀ f,f ∉ ofN c [14]->t2.getD f 0=t1.getD f 0) (nt:Nat->Nat->Nat) (pn:Nat->Nat->Nat->Nat) (o:List Nat):RunS c p nt pn o t2 0:=by
 have key:=yZ C hp l2 h1 h2 h3
 refine⟨l2,fun j m x hj=>absurd hj (Nat.not_lt_zero _),fun j m x _ _ hx hc=>(key m x hx hc).1,fun i=>?_⟩
 by_cases q:i<c.nodes.length
 ·obtain⟨x,hx⟩:=au q
  cases hc:combB x.kind with
  |false=>exact (key i x hx hc).2
  |true =>
   have hc:=of_decide_eq_true hc
   have e:=gL hx
   rw[h3 i (fun m=>by have:=(cB.1 m).2;omega),h0 i (fun m=>by have:=(cB.1 m).2;omega)]
   rw[List.getD,List.getElem?_replicate]
   split <;> decide
 ·rw[List.getD,List.getElem?_eq_none (by omega)];exact Nat.zero_le _
theorem nO {c:Circ}{p:Pat}{pn:Nat->Nat->Nat->Nat}{t:List Nat}{m:Nat}{x:Node} (hc:combB x.kind=false):baseV c p pn t m x=srcV c p m:=by unfold baseV;rw[hc];rfl
theorem sD {c:Circ}{p:Pat}{pn:Nat->Nat->Nat->Nat}{t:List Nat}{m:Nat}{x:Node} (hc:combB x.kind=true):baseV c p pn t m x=jI x.kind (ft pn t m x):=by unfold baseV;rw[hc];rfl
theorem Bl {c:Circ} (C:Cir c) {p:Pat} (hp:PatOk c p) {K:Rsp×List Nat×Nat->Prop} (h:K (fW c idP (sol c p idN idP),sol c p idN idP,0)):dK c p K:=by
 have hlen:=C.len
 have l0:=eT c [0]
 have l2:=eT c [14]
 have hid1:∀ i v,v<=3->idN i v<=3:=fun _ _ h=>h
 have hid2:∀ m j v,v<=3->idP m j v<=3:=fun _ _ _ h=>h
 unfold dK
 refine uI C.good fun o ho=>?_
 refine bx (a:=0) (fun F=>⟨fun _=>xu C hp F,fun q=>by cases q⟩) ?_
 refine⟨(fun q=>by cases q),fun _=>⟨by omega,by omega,?_⟩⟩
 refine dD (og (by omega) (pT (n:=c.nodes.length) hlen l0 hp.inp (fun f m=>(cB.1 m).1) (ib c [0]) List.length_replicate (fun t i nx ht h1 h2=>mU hlen l0 hp.inp (fun f m=>(cB.1 m).1) ht h1 h2) ?_))
 intro t1 e1 h1 h0
 refine ic (by omega) (pT (n:=c.nodes.length) hlen l2 hp.state (fun f m=>(cB.1 m).1) (ib c [14]) e1 (fun t i nx ht h1 h2=>mU hlen l2 hp.state (fun f m=>(cB.1 m).1) ht h1 h2) ?_)
 intro t2 e2 h2 h3
 have hol:o.length=c.nodes.length:=by have:=ho.perm.length_eq;simpa using this
 refine ay (fun s=>s.2.2.2<=o.length/\s.2.1.length=16/\RunS c p idN idP o s.1 s.2.2.2) (fun s=>o.length-s.2.2.2) (fun t=>t=sol c p idN idP) ?_ ⟨Nat.zero_le _,by simp,um C hp e2 h1 h0 h2 h3 _ _ _⟩ ?_
 ·rintro k ⟨t,b,n,i⟩ nx ⟨hi,hb,T⟩ hnx hk
  dsimp only at hi hb T
  refine⟨fun q=>?_,fun q=>hk t ?_⟩
  ·have q:i<o.length:=aJ.1 q
   obtain⟨m,hm⟩:=au q
   have hmn:m<c.nodes.length:=List.mem_range.1 (ho.perm.mem_iff.1 (List.mem_of_getElem? hm))
   obtain⟨x,hx⟩:=au hmn
   have g:=C.good.node m x hx
   have hfew:=g.few
   refine eK (fun s=>s.2.1.length=16/\RunS c p idN idP o s.1 (i+1)) (fun k' hk'=>?_) ?_
   ·refine⟨m,hm,x,hx,tG ?_⟩
    cases hc:combB x.kind with
    |false =>
     have hc':=of_decide_eq_false hc
     rw[decide_eq_false hc']
     refine⟨fun _=>hk' _ ⟨hb,T.skip hm hx ?_⟩,fun e=>by cases e⟩
     rw[nO hc,T.todo i m x (Nat.le_refl _) hm hx hc]
     rfl
    |true =>
     have hc':=of_decide_eq_true hc
     rw[decide_eq_true hc']
     refine⟨(fun e=>by cases e),fun _=>⟨by decide,?_⟩⟩
     refine ay (fun s=>s.2.2<=x.ins.length/\s.1.length=16/\s.2.1=s.2.2/\s.1.take s.2.2=(ft idP t m x).take s.2.2) (fun s=>x.ins.length-s.2.2) (fun s=>s.1.length=16/\s.2<=16/\s.1.take s.2=ft idP t m x) ?_ ⟨Nat.zero_le _,hb,rfl,rfl⟩ ?_
     ·rintro k2 ⟨b,n,j⟩ nx2 ⟨hj,hb,hn,ht⟩ hnx2 hk2
      dsimp only at hj hb hn ht
      subst hn
      refine⟨fun q=>?_,fun q=>hk2 _ ?_⟩
      ·have q:n<x.ins.length:=aJ.1 q
       obtain⟨y,hy⟩:=au q
       have hyn:=g.ins y (List.mem_of_getElem? hy)
       refine⟨y,hy,hyn,_,fa T.len hyn,by omega,by omega,by omega,hnx2 _ ⟨q,?_,rfl,?_⟩ (by dsimp only;omega)⟩
       ·simp only[List.length_append,List.length_take,List.length_drop,List.length_cons,List.length_nil];omega
       ·dsimp only
        have hv:=ly (pn:=idP) (t:=t) (m:=m) hy
        have hl:(b.take n).length=n:=by rw[List.length_take];omega
        rw[List.take_append,hl,show n+1-n=1 from by omega,List.take_of_length_le (by omega),dz hv,ht]
        rfl
      ·have q:x.ins.length<=n:=aU.1 q
       refine⟨hb,by dsimp only;omega,?_⟩
       dsimp only
       rw[ht,List.take_of_length_le (by rw[gk];exact q)]
     ·rintro⟨b,n⟩ ⟨hb,hn,ht⟩
      dsimp only at hb hn ht
      refine⟨by omega,?_⟩
      rw[ht]
      refine evalNode C hx hc gk ?_
      refine⟨hmn,_,fa T.len hmn,hk' _ ⟨hb,?_⟩⟩
      have:=T.step ho hm hx (by exact jE hp hid2 T.le _ _)
      rw[sD hc] at this
      exact this
   ·rintro⟨t',b',n'⟩ ⟨hb',T'⟩
    exact⟨by omega,hnx _ ⟨q,hb',T'⟩ (by dsimp only;omega)⟩
  ·have q:o.length<=i:=aU.1 q
   have e:i=o.length:=by omega
   subst e
   exact (T.sol ho).is C hp hid1 hid2
 ·rintro _ rfl
  have S:=jk C hp hid1 hid2
  exact⟨S.len.symm,wj C S.len S.le h⟩
theorem nr {c:Circ} (C:Cir c) {p:Pat} (hp:PatOk c p) {rest:List Nat->List Nat->List Nat×Nat->Prop}
  (h:∀ t o,OrdOk c o->(∀ nt pn,RunS c p nt pn o t 0)->rest (ofN c [14]) t (o,0)) :
  1*c.nodes.length<=2 ^ 48/\c.nodes.length<2 ^ 63/\aH c (fun r414=>an (α:=(List Nat)) (fun k416=>aT c (fun r417=>av (S:=((List Nat)×Nat)) (fun (v418,v419) nx420=>((ltN v419 r417.length)=true->∃ x421,r417[v419]?=some x421/\∃ x422,p.inp[v419]?=some x422/\x421<c.nodes.length/\∃ x423,v418[x421]?=some x423/\v419+1<2 ^ 63/\nx420 ((v418.set x421 x422),(v419+1)))/\((ltN v419 r417.length)=false->k416 v418)) ((List.replicate c.nodes.length (0:Nat)),0))) (fun v415=>an (α:=(List Nat)) (fun k425=>av (S:=((List Nat)×Nat)) (fun (v426,v427) nx428=>((ltN v427 r414.length)=true->∃ x429,r414[v427]?=some x429/\∃ x430,p.state[v427]?=some x430/\x429<c.nodes.length/\∃ x431,v426[x429]?=some x431/\v427+1<2 ^ 63/\nx428 ((v426.set x429 x430),(v427+1)))/\((ltN v427 r414.length)=false->k425 v426)) (v415,0)) (fun v424=>aW c (fun r432=>rest r414 v424 r432)))):=by
 have hlen:=C.len
 have l0:=eT c [0]
 have l2:=eT c [14]
 refine⟨by omega,by omega,ic (by omega) (dD (og (by omega) (pT (n:=c.nodes.length) hlen l0 hp.inp (fun f m=>(cB.1 m).1) (ib c [0]) List.length_replicate (fun t i nx ht h1 h2=>mU hlen l0 hp.inp (fun f m=>(cB.1 m).1) ht h1 h2) ?_)))⟩
 intro t1 e1 h1 h0
 refine dD (pT (n:=c.nodes.length) hlen l2 hp.state (fun f m=>(cB.1 m).1) (ib c [14]) e1 (fun t i nx ht h1 h2=>mU hlen l2 hp.state (fun f m=>(cB.1 m).1) ht h1 h2) ?_)
 intro t2 e2 h2 h3
 exact uI C.good fun o ho=>h t2 o ho fun nt pn=>um C hp e2 h1 h0 h2 h3 nt pn o
theorem pM {c:Circ} (C:Cir c) {p:Pat}{nt:Nat->Nat->Nat}{pn:Nat->Nat->Nat->Nat}{o t:List Nat}{i m:Nat}{x:Node} (T:RunS c p nt pn o t i) (hm:o[i]?=some m) (hx:c.nodes[m]?=some x) {RD:(List Nat->Prop)->Prop} (hrd:∀ k,k (ft pn t m x)->RD k) {rest:List Nat->Prop}
  (h:∀ t1,t1.length=c.nodes.length->t1.getD m 0=baseV c p pn t m x->(∀ v,t1.set m v=t.set m v)->rest t1) :
  an (α:=(List Nat)) (fun k440=>∃ x441,c.nodes[m]?=some x441/\an (α:=Bool) (fun k443=>((neN x441.kind 0)=true->k443 (neN x441.kind 14))/\((neN x441.kind 0)=false->k443 false)) (fun v442=>(v442=true->∃ x444,c.nodes[m]?=some x444/\an (α:=(List Nat)) RD (fun v448=>aS x444.kind v448 (fun r463=>m<c.nodes.length/\∃ x464,t[m]?=some x464/\k440 (t.set m r463))))/\(v442=false->k440 t))) rest:=by
 have hmn:=ak hx
 have hk:=C.kinds m x hx
 have e:(neN x.kind 0&&neN x.kind 14)=combB x.kind:=by
  rw[tL,tL]
  unfold combB
  rw[Bool.eq_iff_iff]
  simp only[Bool.and_eq_true,decide_eq_true_eq,Bool.not_eq_true',decide_eq_false_iff_not]
  omega
 refine dD ⟨x,hx,bx (a:=combB x.kind) (fun F=>⟨fun q=>?_,fun q=>?_⟩) ⟨fun q=>⟨x,hx,dD (hrd _ (evalNode C hx q gk ⟨hmn,_,fa T.len hmn,?_⟩))⟩,fun q=>?_⟩⟩
 ·rw[q,Bool.true_and] at e;rw[e];exact F
 ·rw[q,Bool.false_and] at e;rw[<- e] at F;exact F
 ·refine h _ (by rw[List.length_set];exact T.len) ?_ fun v=>by rw[List.set_set]
  rw[cd (by rw[T.len];exact hmn),if_pos rfl,sD q]
 ·refine h t T.len ?_ fun _=>rfl
  rw[nO q]
  exact T.todo i m x (Nat.le_refl _) hm hx q
theorem rdA {c:Circ} (C:Cir c) {t:List Nat} (ht:t.length=c.nodes.length) {m:Nat}{x:Node} (hx:c.nodes[m]?=some x) (k:List Nat->Prop) (h:k (ft idP t m x)) :
  ∃ x451,c.nodes[m]?=some x451/\av (S:=((List Nat)×Nat)) (fun (v453,v454) nx456=>((ltN v454 x451.ins.length)=true->∃ x457,x451.ins[v454]?=some x457/\x457<c.nodes.length/\∃ x458,t[x457]?=some x458/\(v453.length+([x458]:(List Nat)).length)*1<=2 ^ 47/\v454+1<2 ^ 63/\nx456 ((v453++([x458]:(List Nat))),(v454+1)))/\((ltN v454 x451.ins.length)=false->k v453)) (([]:List Nat),0):=by
 have g:=C.good.node m x hx
 have hfew:=g.few
 refine⟨x,hx,bn (fun s=>s.2<=x.ins.length/\s.1=(ft idP t m x).take s.2) (fun s=>x.ins.length-s.2) ?_ ⟨Nat.zero_le _,rfl⟩⟩
 rintro⟨l,j⟩ nx ⟨hj,hl⟩ hnx
 dsimp only at hj hl
 refine⟨fun q=>?_,fun q=>?_⟩
 ·have q:j<x.ins.length:=aJ.1 q
  obtain⟨y,hy⟩:=au q
  have hyn:=g.ins y (List.mem_of_getElem? hy)
  refine⟨y,hy,hyn,_,fa ht hyn,?_,by omega,hnx _ ⟨q,?_⟩ (by dsimp only;omega)⟩
  ·rw[hl];simp only[List.length_take,List.length_cons,List.length_nil,gk];omega
  ·dsimp only
   rw[hl,dz (ly (pn:=idP) (t:=t) (m:=m) hy)]
   rfl
 ·have q:x.ins.length<=j:=aU.1 q
  rw[hl,List.take_of_length_le (by rw[gk];exact q)]
  exact h
def mv (a:Nat) (pin:Int) (w:Nat):Nat->Nat->Nat->Nat:=fun m j v=>if m=a/\Int.ofNat j=pin then w else v
def oq (a w:Nat):Nat->Nat->Nat:=fun m v=>if m=a then w else v
theorem rdB {c:Circ} (C:Cir c) {t:List Nat} (ht:t.length=c.nodes.length) {m a w:Nat}{pin:Int}{x:Node} (hx:c.nodes[m]?=some x) (k:List Nat->Prop) (h:k (ft (mv a pin w) t m x)) :
  ∃ x571,c.nodes[m]?=some x571/\av (S:=((List Nat)×Nat)) (fun (v573,v574) nx576=>((ltN v574 x571.ins.length)=true->∃ x577,x571.ins[v574]?=some x577/\x577<c.nodes.length/\∃ x578,t[x577]?=some x578/\an (α:=Bool) (fun k581=>((eqN m a)=true->k581 (eqZ (Int.ofNat v574) pin))/\((eqN m a)=false->k581 false)) (fun v579=>(v579=true->(v573.length+([w]:(List Nat)).length)*1<=2 ^ 47/\v574+1<2 ^ 63/\nx576 ((v573++([w]:(List Nat))),(v574+1)))/\(v579=false->(v573.length+([x578]:(List Nat)).length)*1<=2 ^ 47/\v574+1<2 ^ 63/\nx576 ((v573++([x578]:(List Nat))),(v574+1)))))/\((ltN v574 x571.ins.length)=false->k v573)) (([]:List Nat),0):=by
 have g:=C.good.node m x hx
 have hfew:=g.few
 refine⟨x,hx,bn (fun s=>s.2<=x.ins.length/\s.1=(ft (mv a pin w) t m x).take s.2) (fun s=>x.ins.length-s.2) ?_ ⟨Nat.zero_le _,rfl⟩⟩
 rintro⟨l,j⟩ nx ⟨hj,hl⟩ hnx
 dsimp only at hj hl
 refine⟨fun q=>?_,fun q=>?_⟩
 ·have q:j<x.ins.length:=aJ.1 q
  obtain⟨y,hy⟩:=au q
  have hyn:=g.ins y (List.mem_of_getElem? hy)
  have hv:=ly (pn:=mv a pin w) (t:=t) (m:=m) hy
  have hll:l.length<=16:=by rw[hl];simp only[List.length_take,gk];omega
  have go:∀ v,v=mv a pin w m j (t.getD y 0)->nx (l++[v],j+1):=fun v e=>hnx _ ⟨q,by dsimp only;rw[hl,dz hv,e]⟩ (by dsimp only;omega)
  refine⟨y,hy,hyn,_,fa ht hyn,bx (a:=decide (m=a/\Int.ofNat j=pin)) (fun F=>⟨fun q=>?_,fun q=>?_⟩) ⟨fun q=>⟨by simp only[List.length_cons,List.length_nil];omega,by omega,go _ ?_⟩,fun q=>⟨by simp only[List.length_cons,List.length_nil];omega,by omega,go _ ?_⟩⟩⟩
  ·have e:eqZ (Int.ofNat j) pin=decide (m=a/\Int.ofNat j=pin):=by
    rw[zH]
    simp[bo.1 q]
   rw[e];exact F
  ·rw[decide_eq_false (fun e=>bM.1 q e.1)] at F;exact F
  ·unfold mv;rw[if_pos (of_decide_eq_true q)]
  ·unfold mv;rw[if_neg (of_decide_eq_false q)]
 ·have q:x.ins.length<=j:=aU.1 q
  rw[hl,List.take_of_length_le (by rw[gk];exact q)]
  exact h
theorem pK {c:Circ} (C:Cir c) {t:List Nat} (ht:t.length=c.nodes.length) {rest:List Nat->Prop} (h:rest (c.outs.map fun o=>t.getD o 0)) :
  an (α:=(List Nat)) (fun k475=>av (S:=((List Nat)×Nat)) (fun (v477,v478) nx480=>((ltN v478 c.outs.length)=true->∃ x481,c.outs[v478]?=some x481/\x481<c.nodes.length/\∃ x482,t[x481]?=some x482/\(v477.length+([x482]:(List Nat)).length)*1<=2 ^ 47/\v478+1<2 ^ 63/\nx480 ((v477++([x482]:(List Nat))),(v478+1)))/\((ltN v478 c.outs.length)=false->k475 v477)) (([]:List Nat),0)) rest:=by
 have hol:=C.good.outsLen
 refine ay (fun s=>s.2<=c.outs.length/\s.1=(c.outs.take s.2).map fun o=>t.getD o 0) (fun s=>c.outs.length-s.2) (fun a=>a=c.outs.map fun o=>t.getD o 0) ?_ ⟨Nat.zero_le _,rfl⟩ (fun _ e=>e ▸ h)
 rintro k ⟨l,i⟩ nx ⟨hi,hl⟩ hnx hk
 dsimp only at hi hl
 refine⟨fun q=>?_,fun q=>hk _ ?_⟩
 ·have q:i<c.outs.length:=aJ.1 q
  obtain⟨o,ho⟩:=au q
  have hon:o<c.nodes.length:=C.good.outs o (List.mem_of_getElem? ho)
  refine⟨o,ho,hon,_,fa ht hon,by rw[hl];simp only[List.length_map,List.length_take,List.length_singleton];omega,by omega,hnx _ ⟨q,?_⟩ (by dsimp only;omega)⟩
  dsimp only
  rw[hl,dz ho,List.map_append]
  rfl
 ·have q:c.outs.length<=i:=aU.1 q
  rw[hl,List.take_of_length_le q]
theorem nC {c:Circ} (C:Cir c) {pn:Nat->Nat->Nat->Nat} (h2:∀ m j v,v<=3->pn m j v<=3) {t:List Nat} (hle:∀ i,t.getD i 0<=3) {RD:Nat->(List Nat->Prop)->Prop} (hrd:∀ m x,c.nodes[m]?=some x->∀ k,k (ft pn t m x)->RD m k) {rest:List Nat->Prop} (h:rest ((ofN c [14]).map fun s=>min (pn s 0 (t.getD ((insOf c s).getD 0 0) 0)) 2)) :
  an (α:=(List Nat)) (fun k491=>av (S:=((List Nat)×Nat)) (fun (v493,v494) nx497=>((ltN v494 (ofN c [14]).length)=true->∃ x498,(ofN c [14])[v494]?=some x498/\an (α:=(List Nat)) (RD x498) (fun v502=>∃ x521,v502[0]?=some x521/\an (α:=Nat) (fun k526=>((eqN x521 3)=true->k526 2)/\((eqN x521 3)=false->k526 x521)) (fun v523=>(v493.length+([v523]:(List Nat)).length)*1<=2 ^ 47/\v494+1<2 ^ 63/\nx497 ((v493++([v523]:(List Nat))),(v494+1)))))/\((ltN v494 (ofN c [14]).length)=false->k491 v493)) (([]:List Nat),0)) rest:=by
 have hlen:=C.len
 have l2:=eT c [14]
 refine ay (fun s=>s.2<=(ofN c [14]).length/\s.1=((ofN c [14]).take s.2).map fun s=>min (pn s 0 (t.getD ((insOf c s).getD 0 0) 0)) 2) (fun s=>(ofN c [14]).length-s.2) (fun a=>a=(ofN c [14]).map fun s=>min (pn s 0 (t.getD ((insOf c s).getD 0 0) 0)) 2) ?_ ⟨Nat.zero_le _,rfl⟩ (fun _ e=>e ▸ h)
 rintro k ⟨l,i⟩ nx ⟨hi,hl⟩ hnx hk
 dsimp only at hi hl
 refine⟨fun q=>?_,fun q=>hk _ ?_⟩
 ·have q:i<(ofN c [14]).length:=aJ.1 q
  obtain⟨f,hf⟩:=au q
  obtain⟨hfn,hfk⟩:=cB.1 (List.mem_of_getElem? hf)
  obtain⟨x,hx⟩:=au hfn
  rw[gL hx] at hfk
  have hg:=C.good.node f x hx
  have ha:x.ins.length=1:=by have:=hg.arity;rw[hfk] at this;exact oc this
  have hy:x.ins[0]?=some (x.ins.getD 0 0):=getD_some (by omega)
  have hv:=h2 f 0 _ (hle (x.ins.getD 0 0))
  refine⟨f,hf,dD (hrd f x hx _ ⟨_,ly hy,?_⟩)⟩
  refine bx (a:=min (pn f 0 (t.getD (x.ins.getD 0 0) 0)) 2) (fun F=>⟨fun q=>?_,fun q=>?_⟩) ⟨by rw[hl];simp only[List.length_map,List.length_take,List.length_singleton];omega,by omega,hnx _ ⟨q,?_⟩ (by dsimp only;omega)⟩
  ·rw[bo.1 q] at F;exact F
  ·have:=bM.1 q
   rw[Nat.min_eq_left (by omega)] at F;exact F
  ·dsimp only
   rw[hl,dz hf,List.map_append]
   simp only[List.map_cons,List.map_nil,fE hx]
 ·have q:(ofN c [14]).length<=i:=aU.1 q
  rw[hl,List.take_of_length_le q]
set_option maxHeartbeats 8000000
def cI (p0:Circ) (K:Nat->Prop):Prop :=
 cc p0 (fun r1=>((neN r1 0)=true->K r1)/\((neN r1 0)=false->((ltN 0 p0.mems.length)=true->K 7)/\((ltN 0 p0.mems.length)=false->K 0)))
theorem iV {p0:Circ}{K:Nat->Prop} (hm:cI p0 K) {h0:Heap} (hB:HasB vars h0):∃ r,K r/\CallD Tryz.prog NG 76 ⟨[aA p0]⟩ h0 (i64 r) h0:=by
 unfold cI at hm
 refine fw Tryz.func76 hB (enc:=i64) (fun r=>PureV.flat rfl) fun O=>?_;conv=>whnf
 refine gX ?_
 refine fz ?_;refine gX ?_
 refine ca (gQ hm O.has) fun r1 hm=>?_;refine gX ?_
 refine br hm (fun hm=>?_) fun hm=>?_
 ·refine gX ?_
  exact fe hm O
 ·refine gX ?_
  refine br hm (fun hm=>?_) fun hm=>?_
  ·refine gX ?_
   exact fe hm O
  ·refine gX ?_
   exact fe hm O
def cY (p0:Circ) (p1:Nat) (K:(List Bool)->Prop):Prop :=
 1*p0.nodes.length<=2 ^ 48/\p0.nodes.length<2 ^ 63/\p1<p0.nodes.length/\∃ x3,(List.replicate p0.nodes.length (false:Bool))[p1]?=some x3/\an (α:=(List Bool)) (fun k5=>av (S:=((List Bool)×(List Nat))) (fun (v8,v12) nx15=>((ltN 0 v12.length)=true->1<=v12.length/\v12.length<2 ^ 63/\∃ x16,v12[(v12.length-1)]?=some x16/\1<=v12.length/\v12.length<2 ^ 63/\(v12.length-1)<=v12.length/\∃ x18,p0.nodes[x16]?=some x18/\((eqN x18.kind 14)=true->nx15 (v8,(v12.take (v12.length-1))))/\((eqN x18.kind 14)=false->∃ x19,p0.nodes[x16]?=some x19/\av (S:=((List Bool)×(List Nat)×Nat)) (fun (v20,v24,v25) nx28=>((ltN v25 x19.ins.length)=true->an (α:=((List Bool)×(List Nat))) (fun k36=>∃ x37,x19.ins[v25]?=some x37/\x37<p0.nodes.length/\∃ x38,v20[x37]?=some x38/\((!x38)=true->(v24.length+([x37]:(List Nat)).length)*8<=2 ^ 47/\x37<p0.nodes.length/\∃ x44,v20[x37]?=some x44/\k36 ((v20.set x37 true),(v24++([x37]:(List Nat)))))/\((!x38)=false->k36 (v20,v24))) (fun (v29,v33)=>v25+1<2 ^ 63/\nx28 (v29,v33,(v25+1))))/\((ltN v25 x19.ins.length)=false->nx15 (v20,v24))) (v8,(v12.take (v12.length-1)),0)))/\((ltN 0 v12.length)=false->k5 v8)) (((List.replicate p0.nodes.length (false:Bool)).set p1 true),([p1]:(List Nat)))) (fun v4=>p0.nodes.length=v4.length/\K v4)
theorem jD {p0:Circ}{p1:Nat}{K:(List Bool)->Prop} (hm:cY p0 p1 K) {h0:Heap} (hB:HasB vars h0):∃ r,K r/\CallD Tryz.prog NG 124 ⟨[aA p0,i64 p1]⟩ h0 ((ag 1 Value.bool) r) h0:=by
 unfold cY at hm
 refine fw Tryz.func124 hB (enc:=(ag 1 Value.bool)) (fun r=>dg (fun _=>aj.cons (PureV.flat rfl) aj.nil)) fun O=>?_;conv=>whnf
 refine gX ?_
 refine fz ?_;refine gX ?_
 refine O.mkL (enc:=Value.bool) 1 1 false hm fun g1 h O hm=>?_;refine gX ?_
 refine ix 1 hm fun x3 hx3 hm=>?_;refine gH ?_
 refine O.stE 1 (.head _) hx3 true fun h O=>?_;refine gH ?_
 refine jn hm 65 [5] (fun s=>s) (fun v4 h=>Own vars h0 [(sC g1 (flatC (v4.map Value.bool)))] h) (fun v4=>[]) (fun hm=>?_) ?_
 ·refine gX ?_
  refine O.qL (l:=([p1]:(List Nat))) (enc:=i64) (s:=1) (z:=(i64 0)) rfl rfl (by kernel_rfl) (by kernel_rfl) rfl rfl rfl rfl (fun _=>rfl) fun g6 h O=>?_;refine gX ?_
  refine lw 65 [2,5] (σ:=((List Bool)×(List Nat))×(Option Nat×Option Nat×(List Nat))) (fun s=>s.1) (fun ((v8,v12),(a9,a10,a11)) h=>(a9=none->v12++a11=[])/\(a10=none\/a10=some 1)/\Own vars h0 [(sC g1 (flatC (v8.map Value.bool))),(a9,.cells (flatC ((v12++a11).map i64)) false)] h) (fun ((v8,v12),(a9,a10,a11))=>[(6,(stV i64 a9 a10 v12 a11))]) ((((List.replicate p0.nodes.length (false:Bool)).set p1 true),([p1]:(List Nat))),((some g6),none,([]:(List Nat)))) hm ⟨dq,(.inl rfl),(O.sel [1,0] (by decide))⟩ ?_
  clear hm;rintro⟨⟨v8,v12⟩,⟨a9,a10,a11⟩⟩ nx15 base h hm ⟨ha13,ht14,O⟩
  refine gX ?_
  refine br hm (fun hm=>?_) fun hm=>?_
  ·refine gX ?_
   refine rR hm fun hm=>?_;refine gH ?_
   obtain⟨x16,hx16,hm⟩:=hm
   have h9:=hm
   obtain⟨g17,rfl⟩:=Bn ha13 hx16
   replace hm:=h9
   refine cU (s:=1) (j:=(v12.length-1)) rfl rfl rfl rfl (ak hx16) ?_;refine gH ?_
   replace hx16:=Ct (J:=a11) hx16
   refine ldE (s:=1) (i:=0) (O.at (.tail _ (.head _))) hx16 ?_;refine gX ?_
   refine rR hm fun hm=>?_;refine gH ?_
   refine Cd (enc:=i64) (l:=v12) (J:=a11) (s:=1) (k:=(v12.length-1)) rfl rfl rfl ht14 rfl hm.1 ?_;refine gX ?_
   rw[CQ (enc:=i64) v12 a11 (v12.length-1)] at O
   replace hm:=hm.2
   refine atF hm fun x18 hx18 hm=>?_;refine gX ?_
   refine br hm (fun hm=>?_) fun hm=>?_
   ·refine gX ?_
    exact jx ((v8,(v12.take (v12.length-1))),((some g17),a10,(v12.drop (v12.length-1)++a11))) hm ⟨dq,ht14,O⟩
   ·refine gX ?_
    refine atF hm fun x19 hx19 hm=>?_;refine gX ?_
    refine lw 65 [2,5,45,46] (σ:=((List Bool)×(List Nat)×Nat)×(Option Nat×Option Nat×(List Nat))) (fun s=>s.1) (fun ((v20,v24,v25),(a21,a22,a23)) h=>(a21=none->v24++a23=[])/\(a22=none\/a22=some 1)/\Own vars h0 [(sC g1 (flatC (v20.map Value.bool))),(a21,.cells (flatC ((v24++a23).map i64)) false)] h) (fun ((v20,v24,v25),(a21,a22,a23))=>[(6,(stV i64 a21 a22 v24 a23)),(47,(i64 v25))]) ((v8,(v12.take (v12.length-1)),0),((some g17),a10,(v12.drop (v12.length-1)++a11))) hm ⟨dq,ht14,O⟩ ?_
    clear hm;rintro⟨⟨v20,v24,v25⟩,⟨a21,a22,a23⟩⟩ nx28 base h hm ⟨ha26,ht27,O⟩
    refine gX ?_
    refine br hm (fun hm=>?_) fun hm=>?_
    ·apply Cs;conv=>whnf
     refine jn (σ:=((List Bool)×(List Nat))×(Option Nat×Option Nat×(List Nat))) hm 65 [2,5,45,46,47] (fun s=>s.1) (fun ((v29,v33),(a30,a31,a32)) h=>(a30=none->v33++a32=[])/\(a31=none\/a31=some 1)/\Own vars h0 [(sC g1 (flatC (v29.map Value.bool))),(a30,.cells (flatC ((v33++a32).map i64)) false)] h) (fun ((v29,v33),(a30,a31,a32))=>[(6,(stV i64 a30 a31 v33 a32))]) (fun hm=>?_) ?_
     ·refine gX ?_
      refine atF hm fun x37 hx37 hm=>?_;refine gX ?_
      refine ix 1 hm fun x38 hx38 hm=>?_;refine gH ?_
      refine ldE (s:=1) (i:=0) (O.at (.head _)) hx38 ?_;refine gX ?_
      refine br hm (fun hm=>?_) fun hm=>?_
      ·refine gX ?_
       refine fz ?_;refine gH ?_
       refine O.BZ (enc:=i64) (l:=v24) (J:=a23) (new:=([x37]:(List Nat))) (s:=1) (b:=8) (.tail _ (.head _)) ha26 ht27 rfl rfl rfl rfl rfl rfl rfl rfl (YOk.fl rfl) (fun _=>rfl) (fun _=>rfl) (by decide) hm.1 fun a39 a40 a41 h ha42 ht43 O=>?_;refine gH ?_
       replace hm:=hm.2
       refine ix 1 hm fun x44 hx44 hm=>?_;refine gH ?_
       refine O.stE 1 (.head _) hx44 true fun h O=>?_;refine gH ?_
       exact jx (((v20.set x37 true),(v24++([x37]:(List Nat)))),(a39,a40,a41)) hm ⟨ha42,ht43,O⟩
      ·refine gX ?_
       exact jx ((v20,v24),(a21,a22,a23)) hm ⟨ha26,ht27,O⟩
     ·clear hm;rintro⟨⟨v29,v33⟩,⟨a30,a31,a32⟩⟩ base h hm ⟨ha34,ht35,O⟩
      refine gX ?_
      refine aF hm fun hm=>?_;refine gH ?_
      exact jx ((v29,v33,(v25+1)),(a30,a31,a32)) hm ⟨ha34,ht35,O⟩
    ·refine gX ?_
     exact jx ((v20,v24),(a21,a22,a23)) hm ⟨ha26,ht27,O⟩
  ·refine gX ?_
   exact jx v8 hm (O.sel [0] (by decide))
 ·clear hm;rintro v4 base h hm O
  refine gX ?_
  obtain⟨hn45,hm⟩:=hm
  exact⟨v4,hm,O.ext,fun h2 F=>O.fY F (Nat.le_refl _) (.head _) (fun _=>rfl) hn45⟩
def dV (p0:Circ) (p1:LnZ) (K:Bool->Prop):Prop :=
 ((!ltN p1.node 0)=true->((ltN p1.node p0.nodes.length)=true->((!ltI p1.pin (Int.negSucc 0))=true->∃ x1,p0.nodes[p1.node]?=some x1/\K (ltI p1.pin (Int.ofNat x1.ins.length)))/\((!ltI p1.pin (Int.negSucc 0))=false->K false))/\((ltN p1.node p0.nodes.length)=false->K false))/\((!ltN p1.node 0)=false->K false)
theorem nY {p0:Circ}{p1:LnZ}{K:Bool->Prop} (hm:dV p0 p1 K) {h0:Heap} (hB:HasB vars h0):∃ r,K r/\CallD Tryz.prog NG 94 ⟨[aA p0,az p1]⟩ h0 (Value.bool r) h0:=by
 unfold dV at hm
 refine fw Tryz.func94 hB (enc:=Value.bool) (fun r=>PureV.flat rfl) fun O=>?_;conv=>whnf
 refine gX ?_
 refine fz ?_;refine gH ?_
 refine fz ?_;refine gX ?_
 refine br hm (fun hm=>?_) fun hm=>?_
 ·refine gX ?_
  refine dF ?_
  refine gX ?_
  refine br hm (fun hm=>?_) fun hm=>?_
  ·refine gX ?_
   refine br hm (fun hm=>?_) fun hm=>?_
   ·refine gX ?_
    refine dF ?_
    refine gX ?_
    refine atF hm fun x1 hx1 hm=>?_;refine gH ?_
    refine dF ?_
    refine gX ?_
    exact fe hm O
   ·refine gX ?_
    exact fe hm O
  ·refine gX ?_
   refine bf ?_;refine gX ?_
   exact fe hm O
 ·refine gX ?_
  refine bf ?_;refine gH ?_
  refine bf ?_;refine gX ?_
  exact fe hm O
def db (p0:Circ) (p1:Flt) (K:Nat->Prop):Prop :=
 an (α:=Bool) (fun k2=>((neZ p1.line.pin (Int.negSucc 0))=true->k2 true)/\((neZ p1.line.pin (Int.negSucc 0))=false->((ltN p1.other 0)=true->k2 true)/\((ltN p1.other 0)=false->((!ltN p1.other p0.nodes.length)=true->k2 true)/\((!ltN p1.other p0.nodes.length)=false->((eqN p1.line.node p1.other)=true->k2 true)/\((eqN p1.line.node p1.other)=false->((eqN p1.model 2)=true->((ltN p1.other p1.line.node)=true->k2 true)/\((ltN p1.other p1.line.node)=false->((eqN p1.model 3)=true->k2 (neN p1.value 0))/\((eqN p1.model 3)=false->k2 false)))/\((eqN p1.model 2)=false->((eqN p1.model 3)=true->k2 (neN p1.value 0))/\((eqN p1.model 3)=false->k2 false))))))) (fun v1=>(v1=true->K 1)/\(v1=false->an (α:=Bool) (fun k4=>∃ x5,p0.nodes[p1.line.node]?=some x5/\((eqN x5.kind 12)=true->k4 true)/\((eqN x5.kind 12)=false->∃ x6,p0.nodes[p1.other]?=some x6/\k4 (eqN x6.kind 12))) (fun v3=>(v3=true->K 7)/\(v3=false->an (α:=Bool) (fun k8=>cY p0 p1.line.node (fun r9=>∃ x10,r9[p1.other]?=some x10/\(x10=true->k8 true)/\(x10=false->cY p0 p1.other (fun r11=>∃ x12,r11[p1.line.node]?=some x12/\k8 x12)))) (fun v7=>(v7=true->K 6)/\(v7=false->K 0))))))
theorem ml {p0:Circ}{p1:Flt}{K:Nat->Prop} (hm:db p0 p1 K) {h0:Heap} (hB:HasB vars h0):∃ r,K r/\CallD Tryz.prog NG 95 ⟨[aA p0,aC p1]⟩ h0 (i64 r) h0:=by
 unfold db at hm
 refine fw Tryz.func95 hB (enc:=i64) (fun r=>PureV.flat rfl) fun O=>?_;conv=>whnf
 refine gX ?_
 refine fz ?_;refine gH ?_
 refine fz ?_;refine gH ?_
 apply Cs;conv=>whnf
 apply Cs;refine gH ?_
 apply Cs;conv=>whnf
 apply Cs;conv=>whnf
 refine jn hm 85 [2,5,6] (fun s=>s) (fun v1 h=>Own vars h0 [] h) (fun v1=>[(12,(.bool v1))]) (fun hm=>?_) ?_
 ·refine gX ?_
  refine br hm (fun hm=>?_) fun hm=>?_
  ·refine gX ?_
   refine bt ?_;refine gH ?_
   refine bt ?_;refine gH ?_
   refine bt ?_;refine gH ?_
   refine bt ?_;refine gH ?_
   exact jx true hm O
  ·refine gX ?_
   refine br hm (fun hm=>?_) fun hm=>?_
   ·refine gX ?_
    refine bt ?_;refine gH ?_
    refine bt ?_;refine gH ?_
    refine bt ?_;refine gH ?_
    exact jx true hm O
   ·refine gX ?_
    refine br hm (fun hm=>?_) fun hm=>?_
    ·refine gX ?_
     refine bt ?_;refine gH ?_
     refine bt ?_;refine gH ?_
     exact jx true hm O
    ·refine gX ?_
     refine br hm (fun hm=>?_) fun hm=>?_
     ·refine gX ?_
      refine bt ?_;refine gH ?_
      exact jx true hm O
     ·refine gX ?_
      refine br hm (fun hm=>?_) fun hm=>?_
      ·refine gX ?_
       refine br hm (fun hm=>?_) fun hm=>?_
       ·refine gX ?_
        exact jx true hm O
       ·refine gX ?_
        refine br hm (fun hm=>?_) fun hm=>?_
        ·refine gX ?_
         exact jx (neN p1.value 0) hm O
        ·refine gX ?_
         exact jx false hm O
      ·refine gX ?_
       refine bf ?_;refine gH ?_
       refine br hm (fun hm=>?_) fun hm=>?_
       ·refine gX ?_
        exact jx (neN p1.value 0) hm O
       ·refine gX ?_
        exact jx false hm O
 ·clear hm;rintro v1 base h hm O
  refine gX ?_
  refine br hm (fun hm=>?_) fun hm=>?_
  ·refine gX ?_
   exact fe hm O
  ·refine jn hm 85 [2,5,6] (fun s=>s) (fun v3 h=>Own vars h0 [] h) (fun v3=>[(53,(.bool v3))]) (fun hm=>?_) ?_
   ·refine gX ?_
    refine atF hm fun x5 hx5 hm=>?_;refine gH ?_
    refine br hm (fun hm=>?_) fun hm=>?_
    ·refine gX ?_
     exact jx true hm O
    ·refine gX ?_
     refine atF hm fun x6 hx6 hm=>?_;refine gH ?_
     exact jx (eqN x6.kind 12) hm O
   ·clear hm;rintro v3 base h hm O
    refine gX ?_
    refine br hm (fun hm=>?_) fun hm=>?_
    ·refine gX ?_
     exact fe hm O
    ·refine jn hm 85 [] (fun s=>s) (fun v7 h=>Own vars h0 [] h) (fun v7=>[(70,(.bool v7))]) (fun hm=>?_) ?_
     ·refine gX ?_
      refine ca (jD hm O.has) fun r9 hm=>?_;refine gH ?_
      refine atF hm fun x10 hx10 hm=>?_;refine gH ?_
      refine br hm (fun hm=>?_) fun hm=>?_
      ·refine gX ?_
       exact jx true hm O
      ·refine gX ?_
       refine ca (jD hm O.has) fun r11 hm=>?_;refine gH ?_
       refine atF hm fun x12 hx12 hm=>?_;refine gH ?_
       exact jx x12 hm O
     ·clear hm;rintro v7 base h hm O
      refine gX ?_
      refine br hm (fun hm=>?_) fun hm=>?_
      ·refine gX ?_
       exact fe hm O
      ·refine gX ?_
       exact fe hm O
def faults_Check_wp (p0:Circ) (p1:Flt) (K:Nat->Prop):Prop :=
 cI p0 (fun r1=>((neN r1 0)=true->K r1)/\((neN r1 0)=false->an (α:=Bool) (fun k3=>((ltN 3 p1.model)=true->k3 true)/\((ltN 3 p1.model)=false->((ltN 1 p1.value)=true->k3 true)/\((ltN 1 p1.value)=false->dV p0 p1.line (fun r4=>k3 (!r4))))) (fun v2=>(v2=true->K 1)/\(v2=false->((!ltN p1.model 2)=true->db p0 p1 (fun r5=>K r5))/\((!ltN p1.model 2)=false->((neN p1.other 0)=true->K 1)/\((neN p1.other 0)=false->K 0))))))
theorem iX {p0:Circ}{p1:Flt}{K:Nat->Prop} (hm:faults_Check_wp p0 p1 K) {h0:Heap} (hB:HasB vars h0):∃ r,K r/\CallD Tryz.prog NG 53 ⟨[aA p0,aC p1]⟩ h0 (i64 r) h0:=by
 unfold faults_Check_wp at hm
 refine fw Tryz.func53 hB (enc:=i64) (fun r=>PureV.flat rfl) fun O=>?_;conv=>whnf
 refine gX ?_
 refine fz ?_;refine gH ?_
 refine fz ?_;refine gX ?_
 refine ca (iV hm O.has) fun r1 hm=>?_;refine gX ?_
 refine br hm (fun hm=>?_) fun hm=>?_
 ·refine gX ?_
  exact fe hm O
 ·apply Cs;conv=>whnf
  apply Cs;conv=>whnf
  apply Cs;conv=>whnf
  refine jn hm 38 [2,3] (fun s=>s) (fun v2 h=>Own vars h0 [] h) (fun v2=>[(11,(.bool v2))]) (fun hm=>?_) ?_
  ·refine gX ?_
   refine br hm (fun hm=>?_) fun hm=>?_
   ·refine gX ?_
    refine bt ?_;refine gH ?_
    exact jx true hm O
   ·refine gX ?_
    refine br hm (fun hm=>?_) fun hm=>?_
    ·refine gX ?_
     exact jx true hm O
    ·refine gX ?_
     refine ca (nY hm O.has) fun r4 hm=>?_;refine gH ?_
     exact jx (!r4) hm O
  ·clear hm;rintro v2 base h hm O
   refine gX ?_
   refine br hm (fun hm=>?_) fun hm=>?_
   ·refine gX ?_
    exact fe hm O
   ·refine gX ?_
    refine br hm (fun hm=>?_) fun hm=>?_
    ·refine gX ?_
     refine ca (ml hm O.has) fun r5 hm=>?_;refine gX ?_
     exact fe hm O
    ·refine gX ?_
     refine br hm (fun hm=>?_) fun hm=>?_
     ·refine gX ?_
      exact fe hm O
     ·refine gX ?_
      exact fe hm O
def cJ (p0:Circ) (K:((List LnZ)×Nat)->Prop):Prop :=
 cI p0 (fun r1=>((neN r1 0)=true->K ([],r1))/\((neN r1 0)=false->an (α:=(List LnZ)) (fun k6=>av (S:=((List LnZ)×Nat)) (fun (v8,v9) nx11=>((ltN v9 p0.nodes.length)=true->an (α:=(List LnZ)) (fun k15=>∃ x16,p0.nodes[v9]?=some x16/\x16.ins.length+1<2 ^ 63/\av (S:=((List LnZ)×Nat)) (fun (v20,v21) nx23=>((ltN v21 (x16.ins.length+1))=true -> -(2 ^ 63)<=((Int.ofNat v21)-(Int.ofNat 1))/\((Int.ofNat v21)-(Int.ofNat 1))<2 ^ 63/\(v20.length+([(⟨v9,((Int.ofNat v21)-(Int.ofNat 1))⟩:LnZ)]:(List LnZ)).length)*16<=2 ^ 47/\v21+1<2 ^ 63/\nx23 ((v20++([(⟨v9,((Int.ofNat v21)-(Int.ofNat 1))⟩:LnZ)]:(List LnZ))),(v21+1)))/\((ltN v21 (x16.ins.length+1))=false->k15 v20)) (v8,0)) (fun v13=>v9+1<2 ^ 63/\nx11 (v13,(v9+1))))/\((ltN v9 p0.nodes.length)=false->k6 v8)) (([]:List LnZ),0)) (fun v4=>K (v4,0))))
theorem iO {p0:Circ}{K:((List LnZ)×Nat)->Prop} (hm:cJ p0 K) {h0:Heap} (hB:HasB vars h0):∃ r,K r/\CallD Tryz.prog NG 42 ⟨[aA p0]⟩ h0 ((fun (r:((List LnZ)×Nat))=>Value.tuple ⟨[(ag 2 az) (r.1),i64 (r.2)]⟩) r) h0:=by
 unfold cJ at hm
 refine fw Tryz.func42 hB (enc:=(fun (r:((List LnZ)×Nat))=>Value.tuple ⟨[(ag 2 az) (r.1),i64 (r.2)]⟩)) (fun r=>PureV.tup (aj.cons (dg (fun _=>yC _)) (aj.cons (PureV.flat rfl) (aj.nil)))) fun O=>?_;conv=>whnf
 refine gX ?_
 refine fz ?_;refine gX ?_
 refine ca (iV hm O.has) fun r1 hm=>?_;refine gX ?_
 refine br hm (fun hm=>?_) fun hm=>?_
 ·refine gX ?_
  exact⟨([],r1),hm,O.ext,fun h2 F=>VLe.tup (LLe.cons (VLe.nil _ _) (LLe.cons (VLe.refl _ _) (LLe.nil _)))⟩
 ·apply Cs;conv=>whnf
  apply Cs;conv=>whnf
  apply Cs;refine gH ?_
  have O:=O.aG (.cells (flatC ((([]:List LnZ)).map az)) false)
  refine jn (σ:=(List LnZ)×Option Nat) hm 40 [] (fun s=>s.1) (fun (v4,a3) h=>(a3=none->v4=[])/\Own vars h0 [(a3,.cells (flatC (v4.map az)) false)] h) (fun (v4,a3)=>[(5,(ah 2 a3 (v4.map az)))]) (fun hm=>?_) ?_
  ·refine gX ?_
   refine lw 40 [15,16] (σ:=((List LnZ)×Nat)×Option Nat) (fun s=>s.1) (fun ((v8,v9),a7) h=>(a7=none->v8=[])/\Own vars h0 [(a7,.cells (flatC (v8.map az)) false)] h) (fun ((v8,v9),a7)=>[(5,(ah 2 a7 (v8.map az))),(17,(i64 v9))]) ((([]:List LnZ),0),none) hm ⟨(fun _=>rfl),O⟩ ?_
   clear hm;rintro⟨⟨v8,v9⟩,a7⟩ nx11 base h hm ⟨ha10,O⟩
   refine gX ?_
   refine br hm (fun hm=>?_) fun hm=>?_
   ·apply Cs;conv=>whnf
    refine jn (σ:=(List LnZ)×Option Nat) hm 40 [15,16,17] (fun s=>s.1) (fun (v13,a12) h=>(a12=none->v13=[])/\Own vars h0 [(a12,.cells (flatC (v13.map az)) false)] h) (fun (v13,a12)=>[(5,(ah 2 a12 (v13.map az)))]) (fun hm=>?_) ?_
    ·refine gX ?_
     refine atF hm fun x16 hx16 hm=>?_;refine gH ?_
     (first|refine O.new (ai (l:=[(n8 0),nS,(i64 0),(i64 0)]) rfl rfl rfl) fun g17 h O=>?_|refine O.bB (ai (l:=[(n8 0),nS,(i64 0),(i64 0)]) rfl rfl rfl) fun g17 h O=>?_);refine gH ?_
     refine O.stC 4 (.head _) [(n8 x16.kind),((ag 1 i64) x16.ins),(i64 x16.mem),(i64 x16.bit)] fun h O=>?_;refine gX ?_
     refine aF hm fun hm=>?_;refine gX ?_
     refine lw 40 [6,15,16,17,25] (σ:=((List LnZ)×Nat)×Option Nat) (fun s=>s.1) (fun ((v20,v21),a19) h=>(a19=none->v20=[])/\Own vars h0 [(a19,.cells (flatC (v20.map az)) false)] h) (fun ((v20,v21),a19)=>[(5,(ah 2 a19 (v20.map az))),(26,(i64 v21))]) ((v8,0),a7) hm ⟨ha10,(O.sel [1] (by decide))⟩ ?_
     clear hm;rintro⟨⟨v20,v21⟩,a19⟩ nx23 base h hm ⟨ha22,O⟩
     refine gX ?_
     refine br hm (fun hm=>?_) fun hm=>?_
     ·refine gX ?_
      refine⟨_,uC (a:=(Int.ofNat v21)) (b:=(Int.ofNat 1)) rfl rfl hm.1 hm.2.1,?_⟩;refine gH ?_
      replace hm:=hm.2.2
      refine fz ?_;refine gH ?_
      refine O.apL (enc:=az) (l:=v20) (new:=([(⟨v9,((Int.ofNat v21)-(Int.ofNat 1))⟩:LnZ)]:(List LnZ))) 2 (.head _) ha22 hm fun a24 h ha25 O hm=>?_;refine gX ?_
      refine aF hm fun hm=>?_;refine gH ?_
      exact jx (((v20++([(⟨v9,((Int.ofNat v21)-(Int.ofNat 1))⟩:LnZ)]:(List LnZ))),(v21+1)),a24) hm ⟨ha25,O⟩
     ·refine gX ?_
      exact jx (v20,a19) hm ⟨ha22,O⟩
    ·clear hm;rintro⟨v13,a12⟩ base h hm ⟨ha14,O⟩
     refine gX ?_
     refine aF hm fun hm=>?_;refine gH ?_
     exact jx ((v13,(v9+1)),a12) hm ⟨ha14,O⟩
   ·refine gX ?_
    exact jx (v8,a7) hm ⟨ha10,O⟩
  ·clear hm;rintro⟨v4,a3⟩ base h hm ⟨ha5,O⟩
   refine gX ?_
   refine fg Tryz.func77 ?_;refine gX ?_
   refine gK (s:=2) (enc:=az) (l:=v4) (n:=v4.length) (m:=v4.length) rfl rfl rfl rfl rfl rfl rfl ?_;refine gX ?_
   exact⟨(v4,0),hm,O.ext,fun h2 F=>VLe.tup (LLe.cons (O.iH F (Nat.le_refl _) (.head _) ha5 (fun _=>rfl)) (LLe.cons (VLe.refl _ _) (LLe.nil _)))⟩
end Go.Proofs.YteceaohcjmbfbaaGreatDoor
