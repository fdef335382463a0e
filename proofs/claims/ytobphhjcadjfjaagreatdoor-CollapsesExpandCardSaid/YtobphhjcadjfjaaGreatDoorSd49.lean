/-
  U2, U3, U4, Gat, Co1, Co2, Keys, Par: parts of the proof.
-/
import Derived.Test.YtobphhjcadjfjaaGreatDoorSd48
namespace Go.Proofs.YtobphhjcadjfjaaGreatDoor
open Go.Abs
set_option maxRecDepth 100000
theorem qc {c:Circ}{K:List Nat->Prop} (hc:c.nodes.length<2 ^ 40) (h:K (ofN c [0])):bh c K:=Bf hc (by decide) h
theorem mD {c:Circ}{K:List Nat->Prop} (hc:c.nodes.length<2 ^ 40) (h:K (ofN c [14])):aZ c K:=Bf hc (by decide) h
theorem cP {c:Circ}{k f:Nat}:f∈ofN c [k]↔f<c.nodes.length/\kd c f=k:=by
 unfold ofN kd
 rw[List.mem_filter,List.mem_range]
 simp only[List.contains_cons,List.contains_nil,Bool.or_false,beq_iff_eq]
theorem gx (c:Circ) (ks:List Nat):(ofN c ks).length<=c.nodes.length:=by
 unfold ofN;exact Nat.le_trans (List.length_filter_le _ _) (by simp)
theorem iW (c:Circ) (ks:List Nat):(ofN c ks).Nodup:=List.Pairwise.filter _ List.nodup_range
structure Cir (c:Circ):Prop where
 good:Good c
 mems:c.mems=[]
 kinds:∀ (i:Nat) (x:Node),c.nodes[i]?=some x->x.kind<=14
theorem Cir.len {c:Circ} (C:Cir c):c.nodes.length<=16:=C.good.len
theorem za {c:Circ}{o:List Nat} (h:OrdOk c o) {a b m:Nat} (h1:o[a]?=some m) (h2:o[b]?=some m):a=b:=by
 have hn:o.Nodup:=h.perm.nodup_iff.2 List.nodup_range
 obtain⟨q1,q2⟩:=List.getElem?_eq_some_iff.1 h1
 obtain⟨q3,q4⟩:=List.getElem?_eq_some_iff.1 h2
 rcases Nat.lt_trichotomy a b with q|q|q
 ·exact absurd (q2.trans q4.symm) (List.pairwise_iff_getElem.1 hn a b q1 q3 q)
 ·exact q
 ·exact absurd (q4.trans q2.symm) (List.pairwise_iff_getElem.1 hn b a q3 q1 q)
structure PatOk (c:Circ) (p:Pat):Prop where
 inp:p.inp.length=(ofN c [0]).length
 state:p.state.length=(ofN c [14]).length
 inpv:∀ v∈p.inp,v<=3
 statev:∀ v∈p.state,v<=3
theorem oX {l:List Nat}{K:Bool->Prop} (hl:l.length<2 ^ 60) (hv:∀ v∈l,v<=3) (h:K false):cU l K:=by
 unfold cU eQ
 refine ec (l:=l) ?_ ?_ h
 ·intro k i nx x hx hi hn
  have hv:=hv x (List.mem_of_getElem? hx)
  refine⟨fun _=>⟨x,hx,fun q=>?_,fun _=>⟨by omega,hn⟩⟩,fun q=>?_⟩
  ·have:=aV.1 q;omega
  ·have:=bg.1 q;omega
 ·intro k i nx hi hk
  refine⟨fun q=>?_,fun _=>hk⟩
  have:=aV.1 q;omega
theorem Cir.wX {c:Circ} (C:Cir c):ofN c [15]=[]:=by
 refine List.eq_nil_iff_forall_not_mem.2 fun i m=>?_
 obtain⟨h1,h2⟩:=cP.1 m
 obtain⟨y,hy⟩:=aA h1
 rw[fE hy] at h2
 have:=C.kinds i y hy
 omega
theorem CY {c:Circ} (C:Cir c) {pt:Pat} (hp:PatOk c pt) {K:Nat->Prop} (h:K 0):gk c pt K:=by
 have hlen:=C.len
 have l1:=gx c [0]
 have l2:=gx c [14]
 have h1:=hp.inp
 have h2:=hp.state
 unfold gk
 refine dg (a:=false) (fun F=>⟨fun q=>?_,fun _=>Bf (by omega) (by decide) ?_⟩) ⟨(fun e=>by cases e),fun _=>?_⟩
 ·rw[C.mems] at q;exact absurd (aV.1 q) (by simp)
 ·rw[C.wX];exact F
 refine dg (a:=false) (fun F=>qc (by omega) ⟨fun q=>absurd h1 (dR.1 q),fun _=>mD (by omega) ?_⟩) ⟨(fun e=>by cases e),fun _=>?_⟩
 ·rw[ou.2 h2];exact F
 refine dg (a:=false) (fun F=>oX (by omega) hp.inpv ⟨(fun e=>by cases e),fun _=>oX (by omega) hp.statev F⟩) ⟨(fun e=>by cases e),fun _=>h⟩
def combB (k:Nat):Bool:=decide (1<=k/\k<=13)
def cG (pn:Nat->Nat->Nat->Nat) (t:List Nat) (m:Nat) (x:Node):List Nat:=x.ins.mapIdx fun j k=>pn m j (t.getD k 0)
def srcV (c:Circ) (p:Pat) (i:Nat):Nat:=if kd c i=0 then p.inp.getD ((ofN c [0]).idxOf i) 0 else if kd c i=14 then p.state.getD ((ofN c [14]).idxOf i) 0 else 0
def baseV (c:Circ) (p:Pat) (pn:Nat->Nat->Nat->Nat) (t:List Nat) (m:Nat) (x:Node):Nat:=if combB x.kind=true then iB x.kind (cG pn t m x) else srcV c p m
structure Sol (c:Circ) (p:Pat) (nt:Nat->Nat->Nat) (pn:Nat->Nat->Nat->Nat) (t:List Nat):Prop where
 len:t.length=c.nodes.length
 val:∀ i x,c.nodes[i]?=some x->t.getD i 0=nt i (baseV c p pn t i x)
 le:∀ i,t.getD i 0<=3
theorem fC {pn:Nat->Nat->Nat->Nat}{t:List Nat}{m:Nat}{x:Node}:(cG pn t m x).length=x.ins.length:=by unfold cG;simp
theorem jV {pn:Nat->Nat->Nat->Nat}{t:List Nat}{m j y:Nat}{x:Node} (h:x.ins[j]?=some y):(cG pn t m x)[j]?=some (pn m j (t.getD y 0)):=by
 unfold cG;rw[List.getElem?_mapIdx,h];rfl
theorem lR {pn:Nat->Nat->Nat->Nat}{t u:List Nat}{m:Nat}{x:Node} (h:∀ k∈x.ins,t.getD k 0=u.getD k 0):cG pn t m x=cG pn u m x:=by
 unfold cG
 refine List.ext_getElem (by simp) fun i a b=>?_
 simp only[List.getElem_mapIdx]
 rw[h _ (List.getElem_mem _)]
theorem CG {pn:Nat->Nat->Nat->Nat} (hp:∀ m j v,v<=3->pn m j v<=3) {t:List Nat} (ht:∀ i,t.getD i 0<=3) {m:Nat}{x:Node}:∀ v∈cG pn t m x,v<=3:=by
 intro v h
 unfold cG at h
 rw[List.mem_mapIdx] at h
 obtain⟨i,hi,rfl⟩:=h
 exact hp _ _ _ (ht _)
theorem Sol.eq {c:Circ} (C:Cir c) {p:Pat}{nt:Nat->Nat->Nat}{pn:Nat->Nat->Nat->Nat}{t u:List Nat} (T:Sol c p nt pn t) (U:Sol c p nt pn u):t=u:=by
 have key:∀ n i,i<n->t.getD i 0=u.getD i 0:=by
  intro n
  induction n with
  |zero=>intro i h;omega
  |succ n ih =>
   intro i hi
   by_cases q:i<c.nodes.length
   ·obtain⟨x,hx⟩:=aA q
    rw[T.val i x hx,U.val i x hx]
    congr 1
    unfold baseV
    split
    ·rename_i hc
     have hc:=of_decide_eq_true hc
     rw[lR fun k m=>ih k ?_]
     have:=(C.good.node i x hx).acyc hc.1 hc.2 k m
     omega
    ·rfl
   ·rw[List.getD,List.getD,List.getElem?_eq_none (by rw[T.len];omega),List.getElem?_eq_none (by rw[U.len];omega)]
 refine List.ext_getElem (T.len.trans U.len.symm) fun i a b=>?_
 have:=key (i+1) i (by omega)
 rw[List.getD,List.getElem?_eq_getElem a,List.getD,List.getElem?_eq_getElem b] at this
 exact this
theorem rl {n:Nat}{ixs vs:List Nat} (_hn:n<=16) (_hix:ixs.length<=n) (hl:vs.length=ixs.length) (_hb:∀ f∈ixs,f<n) (nd:ixs.Nodup) {t0:List Nat} (ht0:t0.length=n) {rest:List Nat->Prop}{body:List Nat×Nat->(List Nat×Nat->Prop)->Prop}
  (hbody:∀ t i nx,t.length=n->(∀ f v,i<ixs.length->ixs[i]?=some f->vs[i]?=some v->f<n->nx (t.set f v,i+1))->(ixs.length<=i->rest t)->body (t,i) nx)
  (h:∀ t,t.length=n->(∀ j f,ixs[j]?=some f->t.getD f 0=vs.getD j 0)->(∀ f,f ∉ ixs->t.getD f 0=t0.getD f 0)->rest t):au body (t0,0):=by
 refine aW (fun s=>s.2<=ixs.length/\s.1.length=n/\(∀ j f,j<s.2->ixs[j]?=some f->s.1.getD f 0=vs.getD j 0)/\∀ f,f ∉ ixs.take s.2->s.1.getD f 0=t0.getD f 0) (fun s=>ixs.length-s.2) ?_ ⟨Nat.zero_le _,ht0,(fun j f hj=>absurd hj (Nat.not_lt_zero _)),fun _ _=>rfl⟩
 rintro⟨t,i⟩ nx ⟨hi,h1,h2,h3⟩ hnx
 dsimp only at hi h1 h2 h3
 refine hbody t i nx h1 (fun f v q hf hv hfn=>?_) (fun q=>?_)
 ·obtain⟨e1,e2⟩:=List.getElem?_eq_some_iff.1 hf
  have ev:v=vs.getD i 0:=by rw[List.getD,hv];rfl
  subst ev
  refine hnx _ ⟨q,by simp[h1],fun j g hj hg=>?_,fun g hg=>?_⟩ (by dsimp only;omega)
  ·dsimp only at hj ⊢
   rw[cA (by omega)]
   by_cases e:f=g
   ·subst e
    have:j=i:=by
     obtain⟨e3,e4⟩:=List.getElem?_eq_some_iff.1 hg
     rcases Nat.lt_trichotomy j i with w|w|w
     ·exact absurd (e4.trans e2.symm) (List.pairwise_iff_getElem.1 nd j i e3 e1 w)
     ·exact w
     ·omega
    subst this
    rw[if_pos rfl]
   ·rw[if_neg e]
    refine h2 j g ?_ hg
    by_cases e3:j=i
    ·subst e3;rw[hf] at hg;cases hg;exact absurd rfl e
    ·omega
  ·dsimp only at hg ⊢
   rw[List.take_succ_eq_append_getElem e1,List.mem_append,List.mem_singleton,e2] at hg
   rw[cA (by omega),if_neg (fun e=>hg (.inr e.symm))]
   exact h3 g fun m=>hg (.inl m)
 ·rw[List.take_of_length_le q] at h3
  exact h t h1 (fun j f hj=>h2 j f (by have:=aj hj;omega) hj) h3
theorem oM {n:Nat}{ixs vs t:List Nat}{i:Nat}{rest:Prop}{nx:List Nat×Nat->Prop} (hn:n<=16) (hix:ixs.length<=n) (hl:vs.length=ixs.length) (hb:∀ f∈ixs,f<n) (ht:t.length=n) (h1:∀ f v,i<ixs.length->ixs[i]?=some f->vs[i]?=some v->f<n->nx (t.set f v,i+1)) (h2:ixs.length<=i->rest) :
  ((ltN i ixs.length)=true->∃ x35,ixs[i]?=some x35/\∃ x36,vs[i]?=some x36/\x35<n/\∃ x37,t[x35]?=some x37/\i+1<2 ^ 63/\nx ((t.set x35 x36),(i+1)))/\((ltN i ixs.length)=false->rest):=by
 refine⟨fun q=>?_,fun q=>h2 (bg.1 q)⟩
 have q:i<ixs.length:=aV.1 q
 obtain⟨f,hf⟩:=aA q
 have hfn:=hb f (List.mem_of_getElem? hf)
 have hv:=getD_some (l:=vs) (i:=i) (by omega)
 exact⟨f,hf,_,hv,hfn,_,jM ht hfn,by omega,h1 f _ q hf hv hfn⟩
theorem BI {l:List Nat} (nd:l.Nodup) {j f:Nat} (h:l[j]?=some f):l.idxOf f=j:=by
 obtain⟨h1,rfl⟩:=List.getElem?_eq_some_iff.1 h
 exact nd.idxOf_getElem j h1
theorem Bj {c:Circ} (C:Cir c) {p:Pat} (hp:PatOk c p) {t1 t2:List Nat} (_l2:t2.length=c.nodes.length) (h1:∀ j f,(ofN c [0])[j]?=some f->t1.getD f 0=p.inp.getD j 0) (h2:∀ j f,(ofN c [14])[j]?=some f->t2.getD f 0=p.state.getD j 0) (h3:∀ f,f ∉ ofN c [14]->t2.getD f 0=t1.getD f 0) :
  ∀ i x,c.nodes[i]?=some x->combB x.kind=false->t2.getD i 0=srcV c p i/\t2.getD i 0<=3:=by
 intro i x hx hc
 have hc:=of_decide_eq_false hc
 have hk:=C.kinds i x hx
 have hi:=aj hx
 have e:=fE hx
 unfold srcV
 by_cases k0:x.kind=0
 ·have m:i∈ofN c [0]:=cP.2 ⟨hi,by rw[e];exact k0⟩
  obtain⟨j,hj,ej⟩:=List.getElem_of_mem m
  have hj':(ofN c [0])[j]?=some i:=by rw[List.getElem?_eq_getElem hj,ej]
  have hn:i ∉ ofN c [14]:=fun q=>by have:=(cP.1 q).2;omega
  rw[h3 i hn,h1 j i hj',if_pos (by rw[e];exact k0),BI (iW c [0]) hj']
  exact⟨rfl,hp.inpv _ (ke (by rw[hp.inp];exact hj))⟩
 ·have k14:x.kind=14:=by omega
  have m:i∈ofN c [14]:=cP.2 ⟨hi,by rw[e];exact k14⟩
  obtain⟨j,hj,ej⟩:=List.getElem_of_mem m
  have hj':(ofN c [14])[j]?=some i:=by rw[List.getElem?_eq_getElem hj,ej]
  rw[h2 j i hj',if_neg (by rw[e];exact k0),if_pos (by rw[e];exact k14),BI (iW c [14]) hj']
  exact⟨rfl,hp.statev _ (ke (by rw[hp.state];exact hj))⟩
structure RunS (c:Circ) (p:Pat) (nt:Nat->Nat->Nat) (pn:Nat->Nat->Nat->Nat) (o t:List Nat) (i:Nat):Prop where
 len:t.length=c.nodes.length
 done:∀ j m x,j<i->o[j]?=some m->c.nodes[m]?=some x->t.getD m 0=nt m (baseV c p pn t m x)
 todo:∀ j m x,i<=j->o[j]?=some m->c.nodes[m]?=some x->combB x.kind=false->t.getD m 0=srcV c p m
 le:∀ i,t.getD i 0<=3
theorem RunS.step {c:Circ}{p:Pat}{nt:Nat->Nat->Nat}{pn:Nat->Nat->Nat->Nat}{o t:List Nat} (ho:OrdOk c o) {i m:Nat}{x:Node} (T:RunS c p nt pn o t i) (hm:o[i]?=some m) (hx:c.nodes[m]?=some x) (hle:nt m (baseV c p pn t m x)<=3):RunS c p nt pn o (t.set m (nt m (baseV c p pn t m x))) (i+1):=by
 have hml:m<t.length:=by rw[T.len];exact aj hx
 have same:∀ (j m':Nat) (x':Node),j<=i->o[j]?=some m'->c.nodes[m']?=some x'->baseV c p pn (t.set m (nt m (baseV c p pn t m x))) m' x'=baseV c p pn t m' x':=by
  intro j m' x' hj h1 h2
  unfold baseV
  split
  ·rename_i hc
   have hc:=of_decide_eq_true hc
   rw[lR fun k hk=>?_]
   rw[cA hml,if_neg]
   rintro rfl
   obtain⟨b',hb,hb2⟩:=ho.before j m' x' m h1 h2 hc hk
   have:=za ho hb2 hm
   omega
  ·rfl
 refine⟨by rw[List.length_set];exact T.len,fun j m' x' hj h1 h2=>?_,fun j m' x' hj h1 h2 h3=>?_,fun k=>?_⟩
 ·rw[same j m' x' (by omega) h1 h2,cA hml]
  by_cases e:m=m'
  ·subst e
   rw[if_pos rfl]
   rw[hx] at h2;cases h2
   rfl
  ·rw[if_neg e]
   refine T.done j m' x' ?_ h1 h2
   by_cases e2:j=i
   ·subst e2;rw[hm] at h1;cases h1;exact absurd rfl e
   ·omega
 ·rw[cA hml,if_neg]
  ·exact T.todo j m' x' (by omega) h1 h2 h3
  ·rintro rfl
   have:=za ho hm h1
   omega
 ·rw[cA hml]
  split
  ·exact hle
  ·exact T.le k
theorem RunS.skip {c:Circ}{p:Pat}{nt:Nat->Nat->Nat}{pn:Nat->Nat->Nat->Nat}{o t:List Nat}{i m:Nat}{x:Node} (T:RunS c p nt pn o t i) (hm:o[i]?=some m) (hx:c.nodes[m]?=some x) (he:t.getD m 0=nt m (baseV c p pn t m x)):RunS c p nt pn o t (i+1):=by
 refine⟨T.len,fun j m' x' hj h1 h2=>?_,fun j m' x' hj=>T.todo j m' x' (by omega),T.le⟩
 by_cases e:j=i
 ·subst e
  rw[hm] at h1;cases h1
  rw[hx] at h2;cases h2
  exact he
 ·exact T.done j m' x' (by omega) h1 h2
theorem RunS.sol {c:Circ}{p:Pat}{nt:Nat->Nat->Nat}{pn:Nat->Nat->Nat->Nat}{o t:List Nat} (ho:OrdOk c o) (T:RunS c p nt pn o t o.length):Sol c p nt pn t:=by
 refine⟨T.len,fun i x hx=>?_,T.le⟩
 have hm:i∈o:=ho.perm.mem_iff.2 (List.mem_range.2 (aj hx))
 obtain⟨j,hj,e⟩:=List.getElem_of_mem hm
 exact T.done j i x hj (by rw[List.getElem?_eq_getElem hj,e]) hx
def nC (c:Circ) (pn:Nat->Nat->Nat->Nat) (t:List Nat):Rsp:=⟨c.outs.map fun o=>t.getD o 0,(ofN c [14]).map fun s=>min (pn s 0 (t.getD ((insOf c s).getD 0 0) 0)) 2⟩
def idN:Nat->Nat->Nat:=fun _ v=>v
def idP:Nat->Nat->Nat->Nat:=fun _ _ v=>v
theorem wZ {r:SRun}{n:Nat} (hn:n<r.nets.length) (hv:r.nets.getD n 0<=3) {K:Nat->Prop} (h:K (r.nets.getD n 0)):eK r n K:=by
 unfold eK
 refine dg (a:=false) (fun F=>⟨fun q=>absurd (aV.1 q) (Nat.not_lt_zero _),fun _=>?_⟩) ⟨(fun e=>by cases e),fun _=>⟨_,getD_some hn,wR ?_⟩⟩
 ·rw[show (!ltN n r.nets.length)=false from oU.2 hn];exact F
 ·unfold nO;rw[if_neg (by omega)];exact h
theorem bK {c:Circ}{i:Nat}{x:Node} (h:c.nodes[i]?=some x):insOf c i=x.ins:=by unfold insOf;rw[List.getD,List.getElem?_map,h];rfl
theorem yr {c:Circ} (C:Cir c) {t:List Nat} (ht:t.length=c.nodes.length) (hle:∀ i,t.getD i 0<=3) {K:Rsp->Prop} (h:K (nC c idP t)):dS ⟨c,t⟩ K:=by
 have hlen:=C.len
 have hol:=C.good.outsLen
 have l2:=gx c [14]
 unfold dS
 refine aD (fun s=>s.2<=c.outs.length/\s.1=(c.outs.take s.2).map fun o=>t.getD o 0) (fun s=>c.outs.length-s.2) (fun a=>a=c.outs.map fun o=>t.getD o 0) ?_ ⟨Nat.zero_le _,rfl⟩ ?_
 ·rintro k ⟨l,i⟩ nx ⟨hi,hl⟩ hnx hk
  dsimp only at hi hl
  refine⟨fun q=>?_,fun q=>hk _ ?_⟩
  ·have q:i<c.outs.length:=aV.1 q
   obtain⟨o,ho⟩:=aA q
   obtain⟨e1,e2⟩:=List.getElem?_eq_some_iff.1 ho
   have hon:o<t.length:=by rw[ht];exact C.good.outs o (List.mem_of_getElem? ho)
   refine⟨o,ho,wZ (r:=⟨c,t⟩) hon (hle o) ⟨by rw[hl];simp only[List.length_map,List.length_take,List.length_singleton];omega,by omega,hnx _ ⟨q,?_⟩ (by dsimp only;omega)⟩⟩
   dsimp only
   rw[hl,List.take_succ_eq_append_getElem e1,List.map_append,e2]
   rfl
  ·have q:c.outs.length<=i:=bg.1 q
   rw[hl,List.take_of_length_le q]
 rintro _ rfl
 refine eG (mD (show c.nodes.length<2 ^ 40 by omega) ?_)
 refine aW (fun s=>s.2<=(ofN c [14]).length/\s.1=((ofN c [14]).take s.2).map fun s=>min (t.getD ((insOf c s).getD 0 0) 0) 2) (fun s=>(ofN c [14]).length-s.2) ?_ ⟨Nat.zero_le _,rfl⟩
 rintro⟨l,i⟩ nx ⟨hi,hl⟩ hnx
 dsimp only at hi hl
 refine⟨fun q=>?_,fun q=>?_⟩
 ·have q:i<(ofN c [14]).length:=aV.1 q
  obtain⟨f,hf⟩:=aA q
  obtain⟨e1,e2⟩:=List.getElem?_eq_some_iff.1 hf
  obtain⟨hfn,hfk⟩:=cP.1 (List.mem_of_getElem? hf)
  obtain⟨x,hx⟩:=aA hfn
  rw[fE hx] at hfk
  have hg:=C.good.node f x hx
  have ha:x.ins.length=1:=by have:=hg.arity;rw[hfk] at this;exact pC this
  have hd:=hg.ins (x.ins.getD 0 0) (ke (by omega))
  refine⟨f,hf,eG ⟨x,hx,fun _=>⟨_,getD_some (by omega),wZ (r:=⟨c,t⟩) (by rw[ht];exact hd) (hle _) ?_⟩,fun e=>absurd ha (cx.1 e)⟩⟩
  unfold bG
  refine⟨by rw[hl];simp only[List.length_map,List.length_take,List.length_singleton];omega,by omega,hnx _ ⟨q,?_⟩ (by dsimp only;omega)⟩
  dsimp only
  rw[hl,List.take_succ_eq_append_getElem e1,List.map_append,e2]
  simp only[List.map_cons,List.map_nil,bK hx]
 ·have q:(ofN c [14]).length<=i:=bg.1 q
  rw[hl,List.take_of_length_le q]
  exact h
def nP (c:Circ) (p:Pat) (nt:Nat->Nat->Nat) (pn:Nat->Nat->Nat->Nat):Nat->List Nat
 |0=>[]
 |i+1=>nP c p nt pn i++[match c.nodes[i]? with|some x=>nt i (baseV c p pn (nP c p nt pn i) i x) | none=>0]
def sol (c:Circ) (p:Pat) (nt:Nat->Nat->Nat) (pn:Nat->Nat->Nat->Nat):List Nat:=nP c p nt pn c.nodes.length
theorem fS {c:Circ}{p:Pat}{nt:Nat->Nat->Nat}{pn:Nat->Nat->Nat->Nat}:∀ n,(nP c p nt pn n).length=n
 |0=>rfl
 |n+1=>by rw[nP,List.length_append,fS n];rfl
theorem sl {c:Circ}{p:Pat}{nt:Nat->Nat->Nat}{pn:Nat->Nat->Nat->Nat}{i:Nat}:∀ {n},i<n->(nP c p nt pn n).getD i 0=(nP c p nt pn (i+1)).getD i 0:=by
 intro n
 induction n with
 |zero=>intro h;omega
 |succ n ih =>
  intro h
  by_cases e:i=n
  ·subst e;rfl
  ·rw[<- ih (by omega)]
   rw[nP,List.getD,List.getD,List.getElem?_append_left (by rw[fS];omega)]
theorem uB {c:Circ}{p:Pat}{nt:Nat->Nat->Nat}{pn:Nat->Nat->Nat->Nat}{i:Nat}{x:Node} (hx:c.nodes[i]?=some x):(nP c p nt pn (i+1)).getD i 0=nt i (baseV c p pn (nP c p nt pn i) i x):=by
 rw[nP,List.getD,List.getElem?_append_right (by rw[fS];omega),fS,Nat.sub_self,hx]
 rfl
theorem Dk {c:Circ}{p:Pat} (hp:PatOk c p) (i:Nat):srcV c p i<=3:=by
 unfold srcV
 have key:∀ (l:List Nat) (j:Nat),(∀ v∈l,v<=3)->l.getD j 0<=3:=by
  intro l j h
  by_cases q:j<l.length
  ·exact h _ (ke q)
  ·rw[List.getD,List.getElem?_eq_none (by omega)];exact Nat.zero_le _
 split
 ·exact key _ _ hp.inpv
 split
 ·exact key _ _ hp.statev
 ·omega
theorem oQ {c:Circ}{p:Pat} (hp:PatOk c p) {pn:Nat->Nat->Nat->Nat} (h2:∀ m j v,v<=3->pn m j v<=3) {t:List Nat} (ht:∀ i,t.getD i 0<=3) (i:Nat) (x:Node):baseV c p pn t i x<=3:=by
 unfold baseV
 split
 ·exact Cp _ (CG h2 ht)
 ·exact Dk hp i
theorem uQ {c:Circ}{p:Pat} (hp:PatOk c p) {nt:Nat->Nat->Nat}{pn:Nat->Nat->Nat->Nat} (h1:∀ i v,v<=3->nt i v<=3) (h2:∀ m j v,v<=3->pn m j v<=3):∀ n i,(nP c p nt pn n).getD i 0<=3
 |0,i=>by rw[nP];simp
 |n+1,i=>by
  by_cases q:i<n
  ·rw[nP,List.getD,List.getElem?_append_left (by rw[fS];omega)]
   exact uQ hp h1 h2 n i
  by_cases e:i=n
  ·subst e
   cases hx:c.nodes[i]? with
   |none =>
    rw[nP,List.getD,List.getElem?_append_right (by rw[fS];omega),fS,Nat.sub_self,hx]
    exact Nat.zero_le _
   |some x =>
    rw[uB hx]
    exact h1 _ _ (oQ hp h2 (uQ hp h1 h2 i) _ _)
  ·rw[List.getD,List.getElem?_eq_none (by rw[fS];omega)]
   exact Nat.zero_le _
theorem lL {c:Circ} (C:Cir c) {p:Pat} (hp:PatOk c p) {nt:Nat->Nat->Nat}{pn:Nat->Nat->Nat->Nat} (h1:∀ i v,v<=3->nt i v<=3) (h2:∀ m j v,v<=3->pn m j v<=3):Sol c p nt pn (sol c p nt pn):=by
 refine⟨fS _,fun i x hx=>?_,uQ hp h1 h2 _⟩
 have hi:=aj hx
 unfold sol
 rw[sl hi,uB hx]
 congr 1
 unfold baseV
 split
 ·rename_i hc
  have hc:=of_decide_eq_true hc
  congr 1
  refine lR fun k hk=>?_
  have:=(C.good.node i x hx).acyc hc.1 hc.2 k hk
  rw[sl this,<- sl (n:=c.nodes.length) (by omega)]
 ·rfl
theorem Sol.is {c:Circ} (C:Cir c) {p:Pat} (hp:PatOk c p) {nt:Nat->Nat->Nat}{pn:Nat->Nat->Nat->Nat} (h1:∀ i v,v<=3->nt i v<=3) (h2:∀ m j v,v<=3->pn m j v<=3) {t:List Nat} (T:Sol c p nt pn t):t=sol c p nt pn:=T.eq C (lL C hp h1 h2)
theorem evalNode {c:Circ} (C:Cir c) {m:Nat}{x:Node} (hx:c.nodes[m]?=some x) (hc:combB x.kind=true) {l:List Nat} (hl:l.length=x.ins.length) {K:Nat->Prop} (h:K (iB x.kind l)):bA x.kind l K:=by
 have hc:=of_decide_eq_true hc
 have g:=C.good.node m x hx
 have:=g.few
 exact B9 hc.1 (by omega) (by rw[hl];exact g.arity) (by omega) h
theorem vW {c:Circ} (C:Cir c) {p:Pat}{t1 t2:List Nat} (hp:PatOk c p) (l2:t2.length=c.nodes.length) (h1:∀ j f,(ofN c [0])[j]?=some f->t1.getD f 0=p.inp.getD j 0) (h0:∀ f,f ∉ ofN c [0]->t1.getD f 0=(List.replicate c.nodes.length 0).getD f 0)
  (h2:∀ j f,(ofN c [14])[j]?=some f->t2.getD f 0=p.state.getD j 0) (h3:∀ f,f ∉ ofN c [14]->t2.getD f 0=t1.getD f 0) (nt:Nat->Nat->Nat) (pn:Nat->Nat->Nat->Nat) (o:List Nat):RunS c p nt pn o t2 0:=by
 have key:=Bj C hp l2 h1 h2 h3
 refine⟨l2,fun j m x hj=>absurd hj (Nat.not_lt_zero _),fun j m x _ _ hx hc=>(key m x hx hc).1,fun i=>?_⟩
 by_cases q:i<c.nodes.length
 ·obtain⟨x,hx⟩:=aA q
  cases hc:combB x.kind with
  |false=>exact (key i x hx hc).2
  |true =>
   have hc:=of_decide_eq_true hc
   have e:=fE hx
   rw[h3 i (fun m=>by have:=(cP.1 m).2;omega),h0 i (fun m=>by have:=(cP.1 m).2;omega)]
   rw[List.getD,List.getElem?_replicate]
   split <;> decide
 ·rw[List.getD,List.getElem?_eq_none (by omega)];exact Nat.zero_le _
theorem iJ {c:Circ}{p:Pat}{pn:Nat->Nat->Nat->Nat}{t:List Nat}{m:Nat}{x:Node} (hc:combB x.kind=false):baseV c p pn t m x=srcV c p m:=by unfold baseV;rw[hc];rfl
theorem gP {c:Circ}{p:Pat}{pn:Nat->Nat->Nat->Nat}{t:List Nat}{m:Nat}{x:Node} (hc:combB x.kind=true):baseV c p pn t m x=iB x.kind (cG pn t m x):=by unfold baseV;rw[hc];rfl
theorem Ed {c:Circ} (C:Cir c) {p:Pat} (hp:PatOk c p) {K:Rsp×List Nat×Nat->Prop} (h:K (nC c idP (sol c p idN idP),sol c p idN idP,0)):fI c p K:=by
 have hlen:=C.len
 have l0:=gx c [0]
 have l2:=gx c [14]
 have hid1:∀ i v,v<=3->idN i v<=3:=fun _ _ h=>h
 have hid2:∀ m j v,v<=3->idP m j v<=3:=fun _ _ _ h=>h
 unfold fI
 refine wL C.good fun o ho=>?_
 refine dg (a:=0) (fun F=>⟨fun _=>CY C hp F,fun q=>by cases q⟩) ?_
 refine⟨(fun q=>by cases q),fun _=>⟨by omega,by omega,?_⟩⟩
 refine eG (qc (by omega) (rl (n:=c.nodes.length) hlen l0 hp.inp (fun f m=>(cP.1 m).1) (iW c [0]) List.length_replicate (fun t i nx ht h1 h2=>oM hlen l0 hp.inp (fun f m=>(cP.1 m).1) ht h1 h2) ?_))
 intro t1 e1 h1 h0
 refine mD (by omega) (rl (n:=c.nodes.length) hlen l2 hp.state (fun f m=>(cP.1 m).1) (iW c [14]) e1 (fun t i nx ht h1 h2=>oM hlen l2 hp.state (fun f m=>(cP.1 m).1) ht h1 h2) ?_)
 intro t2 e2 h2 h3
 have hol:o.length=c.nodes.length:=by have:=ho.perm.length_eq;simpa using this
 refine aD (fun s=>s.2.2.2<=o.length/\s.2.1.length=16/\RunS c p idN idP o s.1 s.2.2.2) (fun s=>o.length-s.2.2.2) (fun t=>t=sol c p idN idP) ?_ ⟨Nat.zero_le _,by simp,vW C hp e2 h1 h0 h2 h3 _ _ _⟩ ?_
 ·rintro k ⟨t,b,n,i⟩ nx ⟨hi,hb,T⟩ hnx hk
  dsimp only at hi hb T
  refine⟨fun q=>?_,fun q=>hk t ?_⟩
  ·have q:i<o.length:=aV.1 q
   obtain⟨m,hm⟩:=aA q
   have hmn:m<c.nodes.length:=List.mem_range.1 (ho.perm.mem_iff.1 (List.mem_of_getElem? hm))
   obtain⟨x,hx⟩:=aA hmn
   have g:=C.good.node m x hx
   have hfew:=g.few
   refine fb (fun s=>s.2.1.length=16/\RunS c p idN idP o s.1 (i+1)) (fun k' hk'=>?_) ?_
   ·refine⟨m,hm,x,hx,uN ?_⟩
    cases hc:combB x.kind with
    |false =>
     have hc':=of_decide_eq_false hc
     rw[decide_eq_false hc']
     refine⟨fun _=>hk' _ ⟨hb,T.skip hm hx ?_⟩,fun e=>by cases e⟩
     rw[iJ hc,T.todo i m x (Nat.le_refl _) hm hx hc]
     rfl
    |true =>
     have hc':=of_decide_eq_true hc
     rw[decide_eq_true hc']
     refine⟨(fun e=>by cases e),fun _=>⟨by decide,?_⟩⟩
     refine aD (fun s=>s.2.2<=x.ins.length/\s.1.length=16/\s.2.1=s.2.2/\s.1.take s.2.2=(cG idP t m x).take s.2.2) (fun s=>x.ins.length-s.2.2) (fun s=>s.1.length=16/\s.2<=16/\s.1.take s.2=cG idP t m x) ?_ ⟨Nat.zero_le _,hb,rfl,rfl⟩ ?_
     ·rintro k2 ⟨b,n,j⟩ nx2 ⟨hj,hb,hn,ht⟩ hnx2 hk2
      dsimp only at hj hb hn ht
      subst hn
      refine⟨fun q=>?_,fun q=>hk2 _ ?_⟩
      ·have q:n<x.ins.length:=aV.1 q
       obtain⟨y,hy⟩:=aA q
       have hyn:=g.ins y (List.mem_of_getElem? hy)
       refine⟨y,hy,hyn,_,jM T.len hyn,by omega,by omega,by omega,hnx2 _ ⟨q,?_,rfl,?_⟩ (by dsimp only;omega)⟩
       ·simp only[List.length_append,List.length_take,List.length_drop,List.length_cons,List.length_nil];omega
       ·dsimp only
        have hv:=jV (pn:=idP) (t:=t) (m:=m) hy
        have hl:(b.take n).length=n:=by rw[List.length_take];omega
        rw[List.take_append,hl,show n+1-n=1 from by omega,List.take_of_length_le (by omega),dN hv,ht]
        rfl
      ·have q:x.ins.length<=n:=bg.1 q
       refine⟨hb,by dsimp only;omega,?_⟩
       dsimp only
       rw[ht,List.take_of_length_le (by rw[fC];exact q)]
     ·rintro⟨b,n⟩ ⟨hb,hn,ht⟩
      dsimp only at hb hn ht
      refine⟨by omega,?_⟩
      rw[ht]
      refine evalNode C hx hc fC ?_
      refine⟨hmn,_,jM T.len hmn,hk' _ ⟨hb,?_⟩⟩
      have:=T.step ho hm hx (by exact oQ hp hid2 T.le _ _)
      rw[gP hc] at this
      exact this
   ·rintro⟨t',b',n'⟩ ⟨hb',T'⟩
    exact⟨by omega,hnx _ ⟨q,hb',T'⟩ (by dsimp only;omega)⟩
  ·have q:o.length<=i:=bg.1 q
   have e:i=o.length:=by omega
   subst e
   exact (T.sol ho).is C hp hid1 hid2
 ·rintro _ rfl
  have S:=lL C hp hid1 hid2
  exact⟨S.len.symm,yr C S.len S.le h⟩
theorem vU {c:Circ} (C:Cir c) {p:Pat} (hp:PatOk c p) {rest:List Nat->List Nat->List Nat×Nat->Prop}
  (h:∀ t o,OrdOk c o->(∀ nt pn,RunS c p nt pn o t 0)->rest (ofN c [14]) t (o,0)) :
  1*c.nodes.length<=2 ^ 48/\c.nodes.length<2 ^ 63/\aZ c (fun r414=>an (α:=(List Nat)) (fun k416=>bh c (fun r417=>au (S:=((List Nat)×Nat)) (fun (v418,v419) nx420=>((ltN v419 r417.length)=true->∃ x421,r417[v419]?=some x421/\∃ x422,p.inp[v419]?=some x422/\x421<c.nodes.length/\∃ x423,v418[x421]?=some x423/\v419+1<2 ^ 63/\nx420 ((v418.set x421 x422),(v419+1)))/\((ltN v419 r417.length)=false->k416 v418)) ((List.replicate c.nodes.length (0:Nat)),0))) (fun v415=>an (α:=(List Nat)) (fun k425=>au (S:=((List Nat)×Nat)) (fun (v426,v427) nx428=>((ltN v427 r414.length)=true->∃ x429,r414[v427]?=some x429/\∃ x430,p.state[v427]?=some x430/\x429<c.nodes.length/\∃ x431,v426[x429]?=some x431/\v427+1<2 ^ 63/\nx428 ((v426.set x429 x430),(v427+1)))/\((ltN v427 r414.length)=false->k425 v426)) (v415,0)) (fun v424=>bn c (fun r432=>rest r414 v424 r432)))):=by
 have hlen:=C.len
 have l0:=gx c [0]
 have l2:=gx c [14]
 refine⟨by omega,by omega,mD (by omega) (eG (qc (by omega) (rl (n:=c.nodes.length) hlen l0 hp.inp (fun f m=>(cP.1 m).1) (iW c [0]) List.length_replicate (fun t i nx ht h1 h2=>oM hlen l0 hp.inp (fun f m=>(cP.1 m).1) ht h1 h2) ?_)))⟩
 intro t1 e1 h1 h0
 refine eG (rl (n:=c.nodes.length) hlen l2 hp.state (fun f m=>(cP.1 m).1) (iW c [14]) e1 (fun t i nx ht h1 h2=>oM hlen l2 hp.state (fun f m=>(cP.1 m).1) ht h1 h2) ?_)
 intro t2 e2 h2 h3
 exact wL C.good fun o ho=>h t2 o ho fun nt pn=>vW C hp e2 h1 h0 h2 h3 nt pn o
theorem yY {c:Circ} (C:Cir c) {p:Pat}{nt:Nat->Nat->Nat}{pn:Nat->Nat->Nat->Nat}{o t:List Nat}{i m:Nat}{x:Node} (T:RunS c p nt pn o t i) (hm:o[i]?=some m) (hx:c.nodes[m]?=some x) {RD:(List Nat->Prop)->Prop} (hrd:∀ k,k (cG pn t m x)->RD k) {rest:List Nat->Prop}
  (h:∀ t1,t1.length=c.nodes.length->t1.getD m 0=baseV c p pn t m x->(∀ v,t1.set m v=t.set m v)->rest t1) :
  an (α:=(List Nat)) (fun k440=>∃ x441,c.nodes[m]?=some x441/\an (α:=Bool) (fun k443=>((neN x441.kind 0)=true->k443 (neN x441.kind 14))/\((neN x441.kind 0)=false->k443 false)) (fun v442=>(v442=true->∃ x444,c.nodes[m]?=some x444/\an (α:=(List Nat)) RD (fun v448=>bA x444.kind v448 (fun r463=>m<c.nodes.length/\∃ x464,t[m]?=some x464/\k440 (t.set m r463))))/\(v442=false->k440 t))) rest:=by
 have hmn:=aj hx
 have hk:=C.kinds m x hx
 have e:(neN x.kind 0&&neN x.kind 14)=combB x.kind:=by
  rw[vQ,vQ]
  unfold combB
  rw[Bool.eq_iff_iff]
  simp only[Bool.and_eq_true,decide_eq_true_eq,Bool.not_eq_true',decide_eq_false_iff_not]
  omega
 refine eG ⟨x,hx,dg (a:=combB x.kind) (fun F=>⟨fun q=>?_,fun q=>?_⟩) ⟨fun q=>⟨x,hx,eG (hrd _ (evalNode C hx q fC ⟨hmn,_,jM T.len hmn,?_⟩))⟩,fun q=>?_⟩⟩
 ·rw[q,Bool.true_and] at e;rw[e];exact F
 ·rw[q,Bool.false_and] at e;rw[<- e] at F;exact F
 ·refine h _ (by rw[List.length_set];exact T.len) ?_ fun v=>by rw[List.set_set]
  rw[cA (by rw[T.len];exact hmn),if_pos rfl,gP q]
 ·refine h t T.len ?_ fun _=>rfl
  rw[iJ q]
  exact T.todo i m x (Nat.le_refl _) hm hx q
theorem rdA {c:Circ} (C:Cir c) {t:List Nat} (ht:t.length=c.nodes.length) {m:Nat}{x:Node} (hx:c.nodes[m]?=some x) (k:List Nat->Prop) (h:k (cG idP t m x)) :
  ∃ x451,c.nodes[m]?=some x451/\au (S:=((List Nat)×Nat)) (fun (v453,v454) nx456=>((ltN v454 x451.ins.length)=true->∃ x457,x451.ins[v454]?=some x457/\x457<c.nodes.length/\∃ x458,t[x457]?=some x458/\(v453.length+([x458]:(List Nat)).length)*1<=2 ^ 47/\v454+1<2 ^ 63/\nx456 ((v453++([x458]:(List Nat))),(v454+1)))/\((ltN v454 x451.ins.length)=false->k v453)) (([]:List Nat),0):=by
 have g:=C.good.node m x hx
 have hfew:=g.few
 refine⟨x,hx,aW (fun s=>s.2<=x.ins.length/\s.1=(cG idP t m x).take s.2) (fun s=>x.ins.length-s.2) ?_ ⟨Nat.zero_le _,rfl⟩⟩
 rintro⟨l,j⟩ nx ⟨hj,hl⟩ hnx
 dsimp only at hj hl
 refine⟨fun q=>?_,fun q=>?_⟩
 ·have q:j<x.ins.length:=aV.1 q
  obtain⟨y,hy⟩:=aA q
  have hyn:=g.ins y (List.mem_of_getElem? hy)
  refine⟨y,hy,hyn,_,jM ht hyn,?_,by omega,hnx _ ⟨q,?_⟩ (by dsimp only;omega)⟩
  ·rw[hl];simp only[List.length_take,List.length_cons,List.length_nil,fC];omega
  ·dsimp only
   rw[hl,dN (jV (pn:=idP) (t:=t) (m:=m) hy)]
   rfl
 ·have q:x.ins.length<=j:=bg.1 q
  rw[hl,List.take_of_length_le (by rw[fC];exact q)]
  exact h
def gT (a:Nat) (pin:Int) (w:Nat):Nat->Nat->Nat->Nat:=fun m j v=>if m=a/\Int.ofNat j=pin then w else v
def kl (a w:Nat):Nat->Nat->Nat:=fun m v=>if m=a then w else v
theorem rdB {c:Circ} (C:Cir c) {t:List Nat} (ht:t.length=c.nodes.length) {m a w:Nat}{pin:Int}{x:Node} (hx:c.nodes[m]?=some x) (k:List Nat->Prop) (h:k (cG (gT a pin w) t m x)) :
  ∃ x571,c.nodes[m]?=some x571/\au (S:=((List Nat)×Nat)) (fun (v573,v574) nx576=>((ltN v574 x571.ins.length)=true->∃ x577,x571.ins[v574]?=some x577/\x577<c.nodes.length/\∃ x578,t[x577]?=some x578/\an (α:=Bool) (fun k581=>((eqN m a)=true->k581 (eqZ (Int.ofNat v574) pin))/\((eqN m a)=false->k581 false)) (fun v579=>(v579=true->(v573.length+([w]:(List Nat)).length)*1<=2 ^ 47/\v574+1<2 ^ 63/\nx576 ((v573++([w]:(List Nat))),(v574+1)))/\(v579=false->(v573.length+([x578]:(List Nat)).length)*1<=2 ^ 47/\v574+1<2 ^ 63/\nx576 ((v573++([x578]:(List Nat))),(v574+1)))))/\((ltN v574 x571.ins.length)=false->k v573)) (([]:List Nat),0):=by
 have g:=C.good.node m x hx
 have hfew:=g.few
 refine⟨x,hx,aW (fun s=>s.2<=x.ins.length/\s.1=(cG (gT a pin w) t m x).take s.2) (fun s=>x.ins.length-s.2) ?_ ⟨Nat.zero_le _,rfl⟩⟩
 rintro⟨l,j⟩ nx ⟨hj,hl⟩ hnx
 dsimp only at hj hl
 refine⟨fun q=>?_,fun q=>?_⟩
 ·have q:j<x.ins.length:=aV.1 q
  obtain⟨y,hy⟩:=aA q
  have hyn:=g.ins y (List.mem_of_getElem? hy)
  have hv:=jV (pn:=gT a pin w) (t:=t) (m:=m) hy
  have hll:l.length<=16:=by rw[hl];simp only[List.length_take,fC];omega
  have go:∀ v,v=gT a pin w m j (t.getD y 0)->nx (l++[v],j+1):=fun v e=>hnx _ ⟨q,by dsimp only;rw[hl,dN hv,e]⟩ (by dsimp only;omega)
  refine⟨y,hy,hyn,_,jM ht hyn,dg (a:=decide (m=a/\Int.ofNat j=pin)) (fun F=>⟨fun q=>?_,fun q=>?_⟩) ⟨fun q=>⟨by simp only[List.length_cons,List.length_nil];omega,by omega,go _ ?_⟩,fun q=>⟨by simp only[List.length_cons,List.length_nil];omega,by omega,go _ ?_⟩⟩⟩
  ·have e:eqZ (Int.ofNat j) pin=decide (m=a/\Int.ofNat j=pin):=by
    rw[BE]
    simp[bO.1 q]
   rw[e];exact F
  ·rw[decide_eq_false (fun e=>cx.1 q e.1)] at F;exact F
  ·unfold gT;rw[if_pos (of_decide_eq_true q)]
  ·unfold gT;rw[if_neg (of_decide_eq_false q)]
 ·have q:x.ins.length<=j:=bg.1 q
  rw[hl,List.take_of_length_le (by rw[fC];exact q)]
  exact h
theorem zM {c:Circ} (C:Cir c) {t:List Nat} (ht:t.length=c.nodes.length) {rest:List Nat->Prop} (h:rest (c.outs.map fun o=>t.getD o 0)) :
  an (α:=(List Nat)) (fun k475=>au (S:=((List Nat)×Nat)) (fun (v477,v478) nx480=>((ltN v478 c.outs.length)=true->∃ x481,c.outs[v478]?=some x481/\x481<c.nodes.length/\∃ x482,t[x481]?=some x482/\(v477.length+([x482]:(List Nat)).length)*1<=2 ^ 47/\v478+1<2 ^ 63/\nx480 ((v477++([x482]:(List Nat))),(v478+1)))/\((ltN v478 c.outs.length)=false->k475 v477)) (([]:List Nat),0)) rest:=by
 have hol:=C.good.outsLen
 refine aD (fun s=>s.2<=c.outs.length/\s.1=(c.outs.take s.2).map fun o=>t.getD o 0) (fun s=>c.outs.length-s.2) (fun a=>a=c.outs.map fun o=>t.getD o 0) ?_ ⟨Nat.zero_le _,rfl⟩ (fun _ e=>e ▸ h)
 rintro k ⟨l,i⟩ nx ⟨hi,hl⟩ hnx hk
 dsimp only at hi hl
 refine⟨fun q=>?_,fun q=>hk _ ?_⟩
 ·have q:i<c.outs.length:=aV.1 q
  obtain⟨o,ho⟩:=aA q
  have hon:o<c.nodes.length:=C.good.outs o (List.mem_of_getElem? ho)
  refine⟨o,ho,hon,_,jM ht hon,by rw[hl];simp only[List.length_map,List.length_take,List.length_singleton];omega,by omega,hnx _ ⟨q,?_⟩ (by dsimp only;omega)⟩
  dsimp only
  rw[hl,dN ho,List.map_append]
  rfl
 ·have q:c.outs.length<=i:=bg.1 q
  rw[hl,List.take_of_length_le q]
theorem wq {c:Circ} (C:Cir c) {pn:Nat->Nat->Nat->Nat} (h2:∀ m j v,v<=3->pn m j v<=3) {t:List Nat} (hle:∀ i,t.getD i 0<=3) {RD:Nat->(List Nat->Prop)->Prop} (hrd:∀ m x,c.nodes[m]?=some x->∀ k,k (cG pn t m x)->RD m k) {rest:List Nat->Prop} (h:rest ((ofN c [14]).map fun s=>min (pn s 0 (t.getD ((insOf c s).getD 0 0) 0)) 2)) :
  an (α:=(List Nat)) (fun k491=>au (S:=((List Nat)×Nat)) (fun (v493,v494) nx497=>((ltN v494 (ofN c [14]).length)=true->∃ x498,(ofN c [14])[v494]?=some x498/\an (α:=(List Nat)) (RD x498) (fun v502=>∃ x521,v502[0]?=some x521/\an (α:=Nat) (fun k526=>((eqN x521 3)=true->k526 2)/\((eqN x521 3)=false->k526 x521)) (fun v523=>(v493.length+([v523]:(List Nat)).length)*1<=2 ^ 47/\v494+1<2 ^ 63/\nx497 ((v493++([v523]:(List Nat))),(v494+1)))))/\((ltN v494 (ofN c [14]).length)=false->k491 v493)) (([]:List Nat),0)) rest:=by
 have hlen:=C.len
 have l2:=gx c [14]
 refine aD (fun s=>s.2<=(ofN c [14]).length/\s.1=((ofN c [14]).take s.2).map fun s=>min (pn s 0 (t.getD ((insOf c s).getD 0 0) 0)) 2) (fun s=>(ofN c [14]).length-s.2) (fun a=>a=(ofN c [14]).map fun s=>min (pn s 0 (t.getD ((insOf c s).getD 0 0) 0)) 2) ?_ ⟨Nat.zero_le _,rfl⟩ (fun _ e=>e ▸ h)
 rintro k ⟨l,i⟩ nx ⟨hi,hl⟩ hnx hk
 dsimp only at hi hl
 refine⟨fun q=>?_,fun q=>hk _ ?_⟩
 ·have q:i<(ofN c [14]).length:=aV.1 q
  obtain⟨f,hf⟩:=aA q
  obtain⟨hfn,hfk⟩:=cP.1 (List.mem_of_getElem? hf)
  obtain⟨x,hx⟩:=aA hfn
  rw[fE hx] at hfk
  have hg:=C.good.node f x hx
  have ha:x.ins.length=1:=by have:=hg.arity;rw[hfk] at this;exact pC this
  have hy:x.ins[0]?=some (x.ins.getD 0 0):=getD_some (by omega)
  have hv:=h2 f 0 _ (hle (x.ins.getD 0 0))
  refine⟨f,hf,eG (hrd f x hx _ ⟨_,jV hy,?_⟩)⟩
  refine dg (a:=min (pn f 0 (t.getD (x.ins.getD 0 0) 0)) 2) (fun F=>⟨fun q=>?_,fun q=>?_⟩) ⟨by rw[hl];simp only[List.length_map,List.length_take,List.length_singleton];omega,by omega,hnx _ ⟨q,?_⟩ (by dsimp only;omega)⟩
  ·rw[bO.1 q] at F;exact F
  ·have:=cx.1 q
   rw[Nat.min_eq_left (by omega)] at F;exact F
  ·dsimp only
   rw[hl,dN hf,List.map_append]
   simp only[List.map_cons,List.map_nil,bK hx]
 ·have q:(ofN c [14]).length<=i:=bg.1 q
  rw[hl,List.take_of_length_le q]
structure StuckOk (c:Circ) (f:Flt):Prop where
 model:f.model=0
 value:f.value<=1
 other:f.other=0
 node:f.line.node<c.nodes.length
 pin1 : -1<=f.line.pin
 pin2:f.line.pin<Int.ofNat (insOf c f.line.node).length
theorem xr {c:Circ} (C:Cir c) {K:Nat->Prop} (h:K 0):cV c K:=by
 unfold cV
 refine BG C.good ⟨(fun q=>absurd rfl (dR.1 q)),fun _=>⟨fun q=>?_,fun _=>h⟩⟩
 have:=aV.1 q
 rw[C.mems] at this
 exact absurd this (Nat.not_lt_zero _)
theorem C3 {c:Circ}{l:LnZ} (h1:l.node<c.nodes.length) (h2 : -1<=l.pin) (h3:l.pin<Int.ofNat (insOf c l.node).length) {K:Bool->Prop} (h:K true):dX c l K:=by
 unfold dX
 refine⟨fun _=>⟨fun _=>⟨fun _=>?_,fun q=>?_⟩,fun q=>?_⟩,fun q=>?_⟩
 ·obtain⟨x,hx⟩:=aA h1
  refine⟨x,hx,?_⟩
  rw[bK hx] at h3
  rw[wm.2 h3];exact h
 ·have:ltI l.pin (Int.negSucc 0)=true:=by revert q;cases ltI l.pin (Int.negSucc 0) <;> simp
  have:l.pin<Int.negSucc 0:=wm.1 this
  omega
 ·have:=bg.1 q;omega
 ·have:=oU.1 q;omega
theorem tV {c:Circ} (C:Cir c) {f:Flt} (F:StuckOk c f) {K:Nat->Prop} (h:K 0):faults_Check_wp c f K:=by
 unfold faults_Check_wp
 refine xr C ⟨(fun q=>absurd rfl (dR.1 q)),fun _=>?_⟩
 refine dg (a:=false) (fun G=>⟨fun q=>?_,fun _=>⟨fun q=>?_,fun _=>C3 F.node F.pin1 F.pin2 G⟩⟩) ⟨(fun q=>by cases q),fun _=>⟨fun q=>?_,fun _=>⟨fun q=>?_,fun _=>h⟩⟩⟩
 ·have:=aV.1 q;have:=F.model;omega
 ·have:=aV.1 q;have:=F.value;omega
 ·have:=lZ.1 q;have:=F.model;omega
 ·exact absurd F.other (dR.1 q)
def ntF (f:Flt):Nat->Nat->Nat:=if f.line.pin<0 then kl f.line.node f.value else idN
def pnF (f:Flt):Nat->Nat->Nat->Nat:=if f.line.pin<0 then idP else gT f.line.node f.line.pin f.value
theorem mK {a w:Nat} (h:w<=3):∀ i v,v<=3->kl a w i v<=3:=by intro i v hv;unfold kl;split <;> omega
theorem kO {a w:Nat}{pin:Int} (h:w<=3):∀ m j v,v<=3->gT a pin w m j v<=3:=by intro m j v hv;unfold gT;split <;> omega
theorem og:∀ i v,v<=3->idN i v<=3:=fun _ _ h=>h
theorem mc:∀ m j v,v<=3->idP m j v<=3:=fun _ _ _ h=>h
theorem BV {f:Flt} (h:f.value<=1):∀ i v,v<=3->ntF f i v<=3:=by
 unfold ntF;split
 ·exact mK (by omega)
 ·exact og
theorem A3 {f:Flt} (h:f.value<=1):∀ m j v,v<=3->pnF f m j v<=3:=by
 unfold pnF;split
 ·exact mc
 ·exact kO (by omega)
def wG (c:Circ) (p:Pat):List Nat:=sol c p idN idP
def lD (c:Circ) (p:Pat) (f:Flt):List Nat:=sol c p (ntF f) (pnF f)
theorem DF {c:Circ} (C:Cir c) {p:Pat} (hp:PatOk c p) {K:Rsp×List Nat×Nat->Prop} (h:K (nC c idP (wG c p),wG c p,0)):fI c p K:=Ed C hp h
theorem Bm {c:Circ} (C:Cir c) {p:Pat} (hp:PatOk c p) {f:Flt} (F:StuckOk c f) {K:Rsp×Rsp×List Nat×Nat->Prop} (h:K (nC c idP (wG c p),nC c (pnF f) (lD c p f),lD c p f,0)):dT c f p K:=by
 have hlen:=C.len
 have hm0:=F.model
 unfold dT
 refine tV C F ⟨(fun q=>absurd rfl (dR.1 q)),fun _=>⟨fun q=>absurd (bO.1 q) (by omega),fun _=>DF C hp ⟨(fun q=>absurd rfl (dR.1 q)),fun _=>⟨fun q=>absurd (bO.1 q) (by omega),fun _=>⟨fun q=>absurd (bO.1 q) (by omega),fun _=>⟨fun q=>?_,fun q=>?_⟩⟩⟩⟩⟩⟩
 ·have hneg:f.line.pin<0:=wm.1 q
  have en:ntF f=kl f.line.node f.value:=if_pos hneg
  have ep:pnF f=idP:=if_pos hneg
  have eW:lD c p f=sol c p (kl f.line.node f.value) idP:=by unfold lD;rw[en,ep]
  refine vU C hp fun t o ho T0=>?_
  refine aD (fun s=>s.2<=o.length/\RunS c p (kl f.line.node f.value) idP o s.1 s.2) (fun s=>o.length-s.2) (fun t=>t=lD c p f) ?_ ⟨Nat.zero_le _,T0 _ _⟩ ?_
  ·rintro k ⟨t,i⟩ nx ⟨hi,T⟩ hnx hk
   dsimp only at hi T
   have hol:o.length=c.nodes.length:=by have:=ho.perm.length_eq;simpa using this
   refine⟨fun q=>?_,fun q=>hk t ?_⟩
   ·have q:i<o.length:=aV.1 q
    obtain⟨m,hm⟩:=aA q
    have hmn:m<c.nodes.length:=List.mem_range.1 (ho.perm.mem_iff.1 (List.mem_of_getElem? hm))
    obtain⟨x,hx⟩:=aA hmn
    have st:=T.step ho hm hx (mK (by have:=F.value;omega) _ _ (oQ hp mc T.le _ _))
    refine⟨m,hm,yY C T hm hx (rdA C T.len hx) fun t1 e1 e2 e3=>⟨hmn,_,jM e1 hmn,fun q2=>⟨hmn,_,jM e1 hmn,by omega,hnx _ ⟨q,?_⟩ (by dsimp only;omega)⟩,fun q2=>⟨hmn,_,jM e1 hmn,by omega,hnx _ ⟨q,?_⟩ (by dsimp only;omega)⟩⟩⟩
    ·dsimp only
     unfold kl at st
     rw[if_pos (bO.1 q2)] at st
     rw[e3];exact st
    ·dsimp only
     unfold kl at st
     rw[if_neg (cx.1 q2)] at st
     rw[e3,e2];exact st
   ·have q:o.length<=i:=bg.1 q
    have e:i=o.length:=by omega
    subst e
    rw[eW]
    exact (T.sol ho).is C hp (mK (by have:=F.value;omega)) mc
  ·rintro _ rfl
   have S:=lL C hp (BV F.value) (A3 F.value)
   refine zM C S.len ?_
   refine wq C (pn:=idP) mc S.le (fun m x hx=>rdA C S.len hx) ?_
   refine⟨S.len.symm,?_⟩
   rw[ep] at h
   exact h
 ·have hneg:¬ f.line.pin<0:=Int.not_lt.2 (oR.1 q)
  have en:ntF f=idN:=if_neg hneg
  have ep:pnF f=gT f.line.node f.line.pin f.value:=if_neg hneg
  have hw:f.value<=3:=by have:=F.value;omega
  have eW:lD c p f=sol c p idN (gT f.line.node f.line.pin f.value):=by unfold lD;rw[en,ep]
  refine vU C hp fun t o ho T0=>?_
  refine aD (fun s=>s.2<=o.length/\RunS c p idN (gT f.line.node f.line.pin f.value) o s.1 s.2) (fun s=>o.length-s.2) (fun t=>t=lD c p f) ?_ ⟨Nat.zero_le _,T0 _ _⟩ ?_
  ·rintro k ⟨t,i⟩ nx ⟨hi,T⟩ hnx hk
   dsimp only at hi T
   have hol:o.length=c.nodes.length:=by have:=ho.perm.length_eq;simpa using this
   refine⟨fun q=>?_,fun q=>hk t ?_⟩
   ·have q:i<o.length:=aV.1 q
    obtain⟨m,hm⟩:=aA q
    have hmn:m<c.nodes.length:=List.mem_range.1 (ho.perm.mem_iff.1 (List.mem_of_getElem? hm))
    obtain⟨x,hx⟩:=aA hmn
    have st:=T.step ho hm hx (og _ _ (oQ hp (kO hw) T.le _ _))
    refine⟨m,hm,yY C T hm hx (rdB C T.len hx) fun t1 e1 e2 e3=>⟨hmn,_,jM e1 hmn,hmn,_,jM e1 hmn,by omega,hnx _ ⟨q,?_⟩ (by dsimp only;omega)⟩⟩
    dsimp only
    rw[e3,e2];exact st
   ·have q:o.length<=i:=bg.1 q
    have e:i=o.length:=by omega
    subst e
    rw[eW]
    exact (T.sol ho).is C hp og (kO hw)
  ·rintro _ rfl
   have S:=lL C hp (BV F.value) (A3 F.value)
   refine zM C S.len ?_
   refine wq C (pn:=gT f.line.node f.line.pin f.value) (kO hw) S.le (fun m x hx=>rdB C S.len hx) ?_
   refine⟨S.len.symm,?_⟩
   rw[ep] at h
   exact h
def Con (a b:Nat):Prop:=a<=1/\b<=1/\a≠b
instance (a b:Nat):Decidable (Con a b):=by unfold Con;infer_instance
def qT (a b:List Nat):List Nat:=(List.range (min a.length b.length)).filter fun i=>decide (Con (a.getD i 0) (b.getD i 0))
theorem xh {p:Nat->Bool}{i:Nat}:(List.range (i+1)).filter p=(List.range i).filter p++(if p i=true then [i] else []):=by
 rw[List.range_succ,List.filter_append]
 congr 1
 rw[List.filter_cons]
 split <;> rfl
theorem uX {p:Nat->Bool}{i:Nat}:((List.range i).filter p).length<=i:=by
 have:=List.length_filter_le p (List.range i)
 rwa [List.length_range] at this
theorem qB {a b:List Nat} (ha:a.length<=1000) {K:List Nat->Prop} (h:K (qT a b)):ch a b K:=by
 unfold ch
 have hmin:min a.length b.length<=1000:=by omega
 refine aD (fun s=>s.2<=min a.length b.length/\s.1=(List.range s.2).filter fun i=>decide (Con (a.getD i 0) (b.getD i 0))) (fun s=>min a.length b.length-s.2) (fun r=>r=qT a b) ?_ ⟨Nat.zero_le _,rfl⟩ (fun _ e=>e ▸ h)
 rintro k ⟨l,i⟩ nx ⟨hi,hl⟩ hnx hk
 dsimp only at hi hl
 refine⟨fun q=>?_,fun q=>hk _ ?_⟩
 ·have q:i<min a.length b.length:=aV.1 q
  have ga:=getD_some (l:=a) (i:=i) (by omega)
  have gb:=getD_some (l:=b) (i:=i) (by omega)
  have hll:=@uX (fun i=>decide (Con (a.getD i 0) (b.getD i 0))) i
  rw[<- hl] at hll
  refine dg (a:=if Con (a.getD i 0) (b.getD i 0) then l++[i] else l) (fun G=>?_) ⟨by omega,hnx _ ⟨q,?_⟩ (by dsimp only;omega)⟩
  ·refine dg (a:=decide (Con (a.getD i 0) (b.getD i 0))) (fun G2=>⟨_,ga,fun e1=>⟨_,gb,fun e2=>⟨_,ga,_,gb,?_⟩,fun e2=>?_⟩,fun e1=>?_⟩) ⟨fun e=>?_,fun e=>?_⟩
   ·have e1:=lZ.1 e1
    have e2:=lZ.1 e2
    have:neN (a.getD i 0) (b.getD i 0)=decide (Con (a.getD i 0) (b.getD i 0)):=by
     by_cases q:a.getD i 0=b.getD i 0
     ·rw[ou.2 q,decide_eq_false (fun w:Con _ _=>w.2.2 q)]
     ·rw[dR.2 q,decide_eq_true (show Con _ _ from⟨e1,e2,q⟩)]
    rw[this];exact G2
   ·have e2:=oU.1 e2
    rw[decide_eq_false (fun w:Con _ _=>by have:=w.2.1;omega)] at G2;exact G2
   ·have e1:=oU.1 e1
    rw[decide_eq_false (fun w:Con _ _=>by have:=w.1;omega)] at G2;exact G2
   ·rw[if_pos (of_decide_eq_true e)] at G
    exact⟨by simp only[List.length_singleton];omega,G⟩
   ·rw[if_neg (of_decide_eq_false e)] at G;exact G
  ·dsimp only
   rw[xh,hl]
   by_cases e:Con (a.getD i 0) (b.getD i 0)
   ·rw[if_pos e,if_pos (decide_eq_true e)]
   ·rw[if_neg e,if_neg (by simpa using e),List.append_nil]
 ·have q:min a.length b.length<=i:=bg.1 q
  have e:i=min a.length b.length:=by omega
  subst e
  exact hl
theorem wH (a b:List Nat):(qT a b).length<=a.length:=by
 have:=@uX (fun i=>decide (Con (a.getD i 0) (b.getD i 0))) (min a.length b.length)
 unfold qT
 omega
theorem xE {a b:List Nat}{i:Nat}:i∈qT a b↔i<a.length/\i<b.length/\Con (a.getD i 0) (b.getD i 0):=by
 unfold qT
 rw[List.mem_filter,List.mem_range,decide_eq_true_eq,Nat.lt_min,and_assoc]
theorem AJ {a b:Rsp} (h1:a.out.length<=1000) (h2:a.next.length<=1000) {K:List Nat×List Nat->Prop} (h:K (qT a.out b.out,qT a.next b.next)):dw a b K:=by
 unfold dw
 exact qB h1 (qB h2 h)
def zJ (a b:Rsp):Bool:=ltN 0 ((qT a.out b.out).length+(qT a.next b.next).length)
theorem Dp {a b:Rsp} (h1:a.out.length<=1000) (h2:a.next.length<=1000) {K:Bool->Prop} (h:K (zJ a b)):eH a b K:=by
 unfold eH
 have l1:=wH a.out b.out
 have l2:=wH a.next b.next
 exact AJ h1 h2 ⟨by dsimp only;omega,h⟩
def gK (c:Circ) (p:Pat) (f:Flt):Bool:=zJ (nC c idP (wG c p)) (nC c (pnF f) (lD c p f))
theorem Da {c:Circ} (C:Cir c) (pn:Nat->Nat->Nat->Nat) (t:List Nat):(nC c pn t).out.length<=1000/\(nC c pn t).next.length<=1000:=by
 have:=C.good.outsLen
 have:=gx c [14]
 have:=C.len
 unfold nC
 simp only[List.length_map]
 omega
theorem yw {c:Circ} (C:Cir c) {p:Pat} (hp:PatOk c p) {f:Flt} (F:StuckOk c f) {K:Bool×Nat->Prop} (h:K (gK c p f,0)):cr c f p K:=by
 unfold cr
 obtain⟨h1,h2⟩:=Da C idP (wG c p)
 exact Bm C hp F (Dp h1 h2 h)
def dOf (c:Circ) (s:Nat):Nat:=(insOf c s).getD 0 0
theorem Bh {c:Circ}{pn qn:Nat->Nat->Nat->Nat}{t u:List Nat}:zJ (nC c pn t) (nC c qn u)=true↔(∃ o∈c.outs,Con (t.getD o 0) (u.getD o 0))\/∃ s∈ofN c [14],Con (min (pn s 0 (t.getD (dOf c s) 0)) 2) (min (qn s 0 (u.getD (dOf c s) 0)) 2):=by
 have key:∀ (l:List Nat) (f g:Nat->Nat),(qT (l.map f) (l.map g)).length≠0 ↔ ∃ o∈l,Con (f o) (g o):=by
  intro l f g
  rw[Ne,List.length_eq_zero_iff]
  constructor
  ·intro h
   obtain⟨i,hi⟩:=List.exists_mem_of_ne_nil _ h
   obtain⟨h1,_,h3⟩:=xE.1 hi
   rw[List.length_map] at h1
   refine⟨l[i],List.getElem_mem h1,?_⟩
   simpa[List.getD,h1] using h3
  ·rintro⟨o,hm,hc⟩ e
   obtain⟨i,hi,rfl⟩:=List.getElem_of_mem hm
   have:i∈qT (l.map f) (l.map g):=xE.2 ⟨by simpa using hi,by simpa using hi,by simpa[List.getD,hi] using hc⟩
   rw[e] at this
   cases this
 unfold zJ nC
 dsimp only
 rw[aV,<- key,<- key (ofN c [14]) (fun s=>min (pn s 0 (t.getD (dOf c s) 0)) 2)]
 unfold dOf
 omega
theorem uY {c:Circ}{p:Pat}{f:Flt}:gK c p f=true↔(∃ o∈c.outs,Con ((wG c p).getD o 0) ((lD c p f).getD o 0))\/∃ s∈ofN c [14],Con (min ((wG c p).getD (dOf c s) 0) 2) (min (pnF f s 0 ((lD c p f).getD (dOf c s) 0)) 2):=Bh
theorem zf (a:Nat):¬ Con a a:=fun h=>h.2.2 rfl
theorem nm {α:Type}{l:List α}{i:Nat}{x:α} (h:l[i]?=some x):l.take (i+1)=l.take i++[x]:=by
 obtain⟨h1,rfl⟩:=List.getElem?_eq_some_iff.1 h
 exact List.take_succ_eq_append_getElem h1
def tA (c:Circ) (i:Nat):List LnZ:=(List.range ((insOf c i).length+1)).map fun j=>⟨i,Int.ofNat j-Int.ofNat 1⟩
def gW (c:Circ) (i:Nat):List LnZ:=(List.range i).flatMap (tA c)
def nR (c:Circ):List LnZ:=gW c c.nodes.length
theorem pc (c:Circ) (i:Nat):gW c (i+1)=gW c i++tA c i:=by
 unfold gW
 rw[List.range_succ,List.flatMap_append]
 simp
theorem lY {c:Circ} (C:Cir c):∀ i,i<=c.nodes.length->(gW c i).length<=i*17
 |0,_=>by unfold gW;simp
 |i+1,h=>by
  have:=lY C i (by omega)
  obtain⟨x,hx⟩:=aA (show i<c.nodes.length from h)
  have:=(C.good.node i x hx).few
  rw[pc,List.length_append]
  unfold tA
  rw[List.length_map,List.length_range,bK hx]
  omega
theorem wU {c:Circ} (C:Cir c) {K:List LnZ×Nat->Prop} (h:K (nR c,0)):cu c K:=by
 have hlen:=C.len
 unfold cu
 refine xr C ⟨(fun q=>absurd rfl (dR.1 q)),fun _=>?_⟩
 refine aD (fun s=>s.2<=c.nodes.length/\s.1=gW c s.2) (fun s=>c.nodes.length-s.2) (fun l=>l=nR c) ?_ ⟨Nat.zero_le _,rfl⟩ (fun _ e=>e ▸ h)
 rintro k ⟨l,i⟩ nx ⟨hi,hl⟩ hnx hk
 dsimp only at hi hl
 refine⟨fun q=>?_,fun q=>hk _ ?_⟩
 ·have q:i<c.nodes.length:=aV.1 q
  obtain⟨x,hx⟩:=aA q
  have hfew:=(C.good.node i x hx).few
  have hll:=lY C i hi
  refine fb (fun r=>r=gW c (i+1)) (fun k2 hk2=>⟨x,hx,by omega,?_⟩) ?_
  ·refine aW (fun s=>s.2<=x.ins.length+1/\s.1=gW c i++(tA c i).take s.2) (fun s=>x.ins.length+1-s.2) ?_ ⟨Nat.zero_le _,by simp[hl]⟩
   rintro⟨l,j⟩ nx ⟨hj,hl⟩ hnx
   dsimp only at hj hl
   refine⟨fun q=>?_,fun q=>hk2 _ ?_⟩
   ·have q:j<x.ins.length+1:=aV.1 q
    have hg:(tA c i)[j]?=some ⟨i,Int.ofNat j-Int.ofNat 1⟩:=by
     unfold tA
     rw[List.getElem?_map,bK hx,List.getElem?_range q]
     rfl
    have hb:((tA c i).take j).length<=17:=by
     rw[List.length_take];omega
    refine⟨by simp only[Int.ofNat_eq_natCast];omega,by simp only[Int.ofNat_eq_natCast];omega,?_,by omega,hnx _ ⟨q,?_⟩ (by dsimp only;omega)⟩
    ·rw[hl,List.length_append,List.length_singleton];omega
    ·dsimp only
     rw[hl,List.append_assoc,nm hg]
   ·have q:x.ins.length+1<=j:=bg.1 q
    rw[hl,pc,List.take_of_length_le]
    unfold tA
    rw[List.length_map,List.length_range,bK hx]
    exact q
  ·rintro _ rfl
   exact⟨by omega,hnx _ ⟨q,rfl⟩ (by dsimp only;omega)⟩
 ·have q:c.nodes.length<=i:=bg.1 q
  have e:i=c.nodes.length:=by omega
  subst e
  exact hl
theorem bb {α:Type}{l:List α}{a b:α}:a∈l++[b]↔a∈l\/a=b:=by rw[List.mem_append,List.mem_singleton]
theorem xg {κ ν:Type} [DecidableEq κ] (m:List (κ×ν)) (k k':κ) (v:ν):cq (jt m k v) k'=if k'=k then some v else cq m k':=by
 induction m with
 |nil=>unfold jt cq cq;rfl
 |cons a m ih =>
  unfold jt
  by_cases e:k=a.1
  ·rw[if_pos e]
   unfold cq
   by_cases e2:k'=k
   ·rw[if_pos e2,if_pos e2]
   ·rw[if_neg e2,if_neg e2,if_neg (fun q=>e2 (q.trans e.symm))]
  ·rw[if_neg e]
   unfold cq
   by_cases e2:k'=a.1
   ·rw[if_pos e2,if_pos e2,if_neg (fun q=>e (q.symm.trans e2))]
   ·rw[if_neg e2,if_neg e2,ih]
def bX:Circ:=⟨[⟨0,[],0,0⟩,⟨0,[],0,0⟩,⟨5,[0,1],0,0⟩],[⟨#[97]⟩,⟨#[98]⟩,⟨#[121]⟩],[],[2]⟩
theorem yC:(([⟨#[97]⟩,⟨#[98]⟩,⟨#[121]⟩]:List ByteArray).all fun s=>isTrue (qF Tryz.prog [] (po Tryz.prog) 60 143 #[.string s] (eX vars)))=true:=by kernel_rfl
theorem Cj {s:ByteArray} (h:s∈([⟨#[97]⟩,⟨#[98]⟩,⟨#[121]⟩]:List ByteArray)):CT s:=by
 obtain⟨h',e⟩:=rH (List.all_eq_true.1 yC s h)
 have c:=(jI hM hP (fun f vs h v e=>kL f vs h v e) 60 _ _ _ _ _ e).1
 exact⟨PureV.rI rfl,fun h b=>c.lift (by kernel_rfl) rfl (nz (zP b) (rn b))⟩
theorem tQ {i:Nat}{x:Node} (h:bX.nodes[i]?=some x):(i=0/\x=⟨0,[],0,0⟩)\/(i=1/\x=⟨0,[],0,0⟩)\/(i=2/\x=⟨5,[0,1],0,0⟩):=by
 have hi:=aj h
 have hi:i<3:=hi
 have:i=0\/i=1\/i=2:=by omega
 rcases this with rfl|rfl|rfl
 ·cases h;exact .inl ⟨rfl,rfl⟩
 ·cases h;exact .inr (.inl ⟨rfl,rfl⟩)
 ·cases h;exact .inr (.inr ⟨rfl,rfl⟩)
theorem Ck:Cir bX:=by
 have node:∀ i x,bX.nodes[i]?=some x->GoodN bX i x:=by
  intro i x h
  rcases tQ h with⟨rfl,rfl⟩|⟨rfl,rfl⟩|⟨rfl,rfl⟩
  ·exact⟨(by decide:0<=15),(by decide:Arity 0 0),(fun k m=>by cases m),(fun e=>by cases e),fun _=>⟨rfl,rfl⟩,(fun e=>by cases e),fun e=>absurd e (by decide:¬ 1<=0)⟩
  ·exact⟨(by decide:0<=15),(by decide:Arity 0 0),(fun k m=>by cases m),(fun e=>by cases e),fun _=>⟨rfl,rfl⟩,(fun e=>by cases e),fun e=>absurd e (by decide:¬ 1<=0)⟩
  ·exact⟨(by decide:5<=15),(by decide:Arity 5 2),(by decide:∀ k∈[0,1],k<3),(fun e=>by cases e),fun _=>⟨rfl,rfl⟩,(fun e=>by cases e),fun _ _=>(by decide:∀ k∈[0,1],k<2)⟩
 have F:FanOk bX:=AZ ⟨by decide,fun i x h=>⟨(node i x h).ins,(node i x h).few⟩⟩
 have N:NamesOk bX:=by
  refine FnV.rq (enc:=i64) (PureV.flat rfl) fun h hB=>?_
  exact lM (K:=fun r=>r=0) (ox (fun s m=>Cj m) (by decide) (by decide) rfl) hB
 refine⟨⟨by decide,rfl,N,F,(fun m h=>by cases h),by decide,by decide,by decide,node,by decide⟩,rfl,fun i x h=>?_⟩
 rcases tQ h with⟨rfl,rfl⟩|⟨rfl,rfl⟩|⟨rfl,rfl⟩ <;> decide
structure Si where
 node:Nat
 pin:Nat
 v:Nat
deriving DecidableEq
structure VS (c:Circ) (s:Si):Prop where
 node:s.node<c.nodes.length
 pin:s.pin<=(insOf c s.node).length
 v:s.v<=1
def eqR (k n:Nat):List Rul :=
 if k=3\/k=13/\n=1 then [⟨0,0⟩,⟨1,1⟩] else if k=4 then [⟨0,1⟩,⟨1,0⟩] else if k=5 then [⟨0,0⟩] else if k=6 then [⟨0,1⟩] else if k=7 then [⟨1,1⟩] else if k=8 then [⟨1,0⟩] else []
theorem rP {k n:Nat}{r:Rul} (h:r∈eqR k n):r.pin<=1/\r.out<=1:=by
 unfold eqR at h
 split at h
 ·simp only[List.mem_cons,List.not_mem_nil,or_false] at h
  rcases h with rfl|rfl <;> decide
 split at h
 ·simp only[List.mem_cons,List.not_mem_nil,or_false] at h
  rcases h with rfl|rfl <;> decide
 split at h
 ·rw[List.mem_singleton] at h;subst h;decide
 split at h
 ·rw[List.mem_singleton] at h;subst h;decide
 split at h
 ·rw[List.mem_singleton] at h;subst h;decide
 split at h
 ·rw[List.mem_singleton] at h;subst h;decide
 ·cases h
theorem Dx (k n:Nat):(eqR k n).length<=2:=by
 unfold eqR
 repeat' split
 all_goals decide
def D7 (n:Nat) (r:Rul) (j:Nat):Si×Si:=(⟨n,j+1,r.pin⟩,⟨n,0,r.out⟩)
def yk (c:Circ) (n:Nat) (r:Rul):List (Si×Si):=(List.range (insOf c n).length).map (D7 n r)
def BN (c:Circ) (n:Nat):List (Si×Si):=(eqR (kd c n) (insOf c n).length).flatMap (yk c n)
def fR (c:Circ) (i:Nat):List (Si×Si):=(List.range i).flatMap (BN c)
def nw (c:Circ) (n:Nat):Option Ln:=match fanOf c n with
 |[l]=>if n∈c.outs then none else some l
 |_=>none
def AK (c:Circ) (n:Nat):List (Si×Si):=match nw c n with
 |some l=>[(⟨n,0,0⟩,⟨l.node,l.pin+1,0⟩),(⟨n,0,1⟩,⟨l.node,l.pin+1,1⟩)]
 |none=>[]
def jS (c:Circ) (i:Nat):List (Si×Si):=(List.range i).flatMap (AK c)
def edgesN (c:Circ):List (Si×Si):=fR c c.nodes.length++jS c c.nodes.length
theorem vV (c:Circ) (i:Nat):fR c (i+1)=fR c i++BN c i:=by
 unfold fR
 rw[List.range_succ,List.flatMap_append]
 simp
theorem qo (c:Circ) (i:Nat):jS c (i+1)=jS c i++AK c i:=by
 unfold jS
 rw[List.range_succ,List.flatMap_append]
 simp
def eB (c:Circ):Nat->Nat
 |0=>0
 |i+1=>eB c i+2*((insOf c i).length+1)
def fsN (c:Circ):List Nat:=(List.range c.nodes.length).map (eB c)
def npN (c:Circ):Nat:=eB c c.nodes.length
def iL (c:Circ) (s:Si):Nat:=eB c s.node+2*s.pin+s.v
theorem mo {c:Circ}{i j:Nat} (h:i<=j):eB c i<=eB c j:=by
 induction j with
 |zero =>
    have:i=0:=by omega
    rw[this];exact Nat.le_refl _
 |succ j ih =>
  by_cases q:i=j+1
  ·rw[q];exact Nat.le_refl _
  ·have:=ih (by omega)
   rw[eB];omega
theorem vC {c:Circ}{s:Si} (h:VS c s):iL c s<eB c (s.node+1):=by
 have:=h.pin
 have:=h.v
 unfold iL
 rw[eB];omega
theorem kQ {c:Circ}{s:Si} (h:VS c s):iL c s<npN c:=Nat.lt_of_lt_of_le (vC h) (mo h.node)
theorem B5 {c:Circ}{s t:Si} (h:VS c s) (g:VS c t) (e:iL c s=iL c t):s=t:=by
 have h1:=vC h
 have h2:=vC g
 have hn:s.node=t.node:=by
  rcases Nat.lt_trichotomy s.node t.node with q|q|q
  ·have:=mo (c:=c) (show s.node+1<=t.node from q)
   have:eB c t.node<=iL c t:=by unfold iL;omega
   omega
  ·exact q
  ·have:=mo (c:=c) (show t.node+1<=s.node from q)
   have:eB c s.node<=iL c s:=by unfold iL;omega
   omega
 have a1:=h.v
 have a2:=g.v
 obtain⟨n,p,v⟩:=s
 obtain⟨n',p',v'⟩:=t
 dsimp only at hn a1 a2
 subst hn
 unfold iL at e
 dsimp only at e
 obtain rfl:p=p':=by omega
 obtain rfl:v=v':=by omega
 rfl
theorem pL {c:Circ} (C:Cir c):∀ i,i<=c.nodes.length->eB c i<=i*34
 |0,_=>Nat.le_refl _
 |i+1,h=>by
  have:=pL C i (by omega)
  obtain⟨x,hx⟩:=aA (show i<c.nodes.length from h)
  have:=(C.good.node i x hx).few
  rw[eB,bK hx];omega
theorem yP {c:Circ} (C:Cir c):npN c<=544:=by
 have:=pL C _ (Nat.le_refl _)
 have:=C.len
 unfold npN;omega
theorem DE {c:Circ}{i:Nat} (h:i<c.nodes.length):(fsN c)[i]?=some (eB c i):=by
 unfold fsN
 rw[List.getElem?_map,List.getElem?_range h];rfl
theorem DG {c:Circ} (C:Cir c) {K:List Nat×List Nat×Nat->Prop} (h:K (fsN c,List.range (npN c),npN c)):eh c K:=by
 have hlen:=C.len
 have hnp:=yP C
 unfold eh
 refine aD (fun s=>s.2.2<=c.nodes.length/\s.1=(List.range s.2.2).map (eB c)/\s.2.1=eB c s.2.2) (fun s=>c.nodes.length-s.2.2) (fun s=>s=(fsN c,npN c)) ?_ ⟨Nat.zero_le _,rfl,rfl⟩ ?_
 ·rintro k ⟨fs,n,i⟩ nx ⟨hi,hf,hn⟩ hnx hk
  dsimp only at hi hf hn
  refine⟨fun q=>?_,fun q=>hk _ ?_⟩
  ·have q:i<c.nodes.length:=aV.1 q
   obtain⟨x,hx⟩:=aA q
   have hfew:=(C.good.node i x hx).few
   have:=pL C i (by omega)
   refine⟨x,hx,?_,by omega,by omega,by omega,by omega,hnx _ ⟨q,?_,?_⟩ (by dsimp only;omega)⟩
   ·rw[hf,List.length_map,List.length_range,List.length_singleton];omega
   ·dsimp only
    rw[hf,hn,List.range_succ,List.map_append];rfl
   ·dsimp only
    rw[eB,bK hx,hn]
  ·have q:c.nodes.length<=i:=bg.1 q
   obtain rfl:i=c.nodes.length:=by omega
   rw[hf,hn];rfl
 ·rintro _ rfl
  refine⟨by omega,by omega,?_⟩
  refine aD (fun s=>s.2<=npN c/\s.1=List.range s.2++List.replicate (npN c-s.2) 0) (fun s=>npN c-s.2) (fun s=>s=List.range (npN c)) ?_ ⟨Nat.zero_le _,by simp⟩ (fun _ e=>e ▸ h)
  rintro k ⟨ps,i⟩ nx ⟨hi,hp⟩ hnx hk
  dsimp only at hi hp
  refine⟨fun q=>?_,fun q=>hk _ ?_⟩
  ·have q:i<npN c:=aV.1 q
   have hl:i<ps.length:=by rw[hp];simp;omega
   refine⟨q,_,List.getElem?_eq_getElem hl,by omega,hnx _ ⟨q,?_⟩ (by dsimp only;omega)⟩
   dsimp only
   rw[hp,List.set_append_right _ _ (by simp),List.range_succ,List.append_assoc]
   congr 1
   rw[List.length_range,Nat.sub_self,show npN c-i=(npN c-(i+1))+1 by omega,List.replicate_succ]
   rfl
  ·have q:npN c<=i:=bg.1 q
   obtain rfl:i=npN c:=by omega
   rw[hp];simp
theorem Ax {S:Type}{body:S->(S->Prop)->Prop} (Inv:Nat->S->Prop) (step:∀ n s next,Inv n s->(∀ m s',m<n->Inv m s'->next s')->body s next) {n:Nat}{s:S} (h:Inv n s):au body s:=by
 have key:∀ N n s,Inv n s->n<N->wI body N s:=by
  intro N
  induction N with
  |zero=>intro n s _ h;omega
  |succ N ih=>exact fun n s hI hn=>step n s _ hI fun m s' h1 h2=>ih m s' h2 (by omega)
 exact⟨n+1,key _ n s h (by omega)⟩
theorem pb {np i r:Nat}{fs ps:List Nat} (hl:ps.length=np) (hr:Rt ps i r) {K:List Nat×Nat->Prop} (h:∀ qs,SameR ps qs->K (qs,r)):bQ np fs ps i K:=by
 obtain⟨n,hn⟩:=hr
 unfold bQ
 refine Ax (fun n s=>SameR ps s.1/\RtN s.1 n s.2 r) ?_ (n:=n) ⟨SameR.refl ps,hn⟩
 rintro n ⟨qs,i⟩ nx ⟨hs,hq⟩ hnx
 dsimp only at hs hq
 have hlq:qs.length=np:=hs.len.trans hl
 have hi:i<np:=hlq ▸ Rt.lt1 ⟨n,hq⟩
 match n,hq with
 |0,hq =>
  obtain⟨h1,rfl⟩:=hq
  exact⟨hi,i,h1,(fun q=>absurd rfl (dR.1 q)),fun _=>h qs hs⟩
 |n+1,⟨j,h1,h2,h3⟩ =>
  have hj:j<np:=hlq ▸ Rt.lt1 ⟨n,h3⟩
  obtain⟨k,hk⟩:=aA (l:=qs) (i:=j) (by rw[hlq];exact hj)
  refine⟨hi,j,h1,fun _=>⟨hi,j,h1,hj,k,hk,hi,j,h1,hi,k,List.getElem?_set_self (by rw[hlq];exact hi),?_⟩,fun q=>absurd (ou.1 q) h2⟩
  obtain⟨m,hm1,hm⟩:∃ m,m<=n/\RtN (qs.set i k) m k r:=by
   match n,h3 with
   |0,h3 =>
    obtain⟨e,rfl⟩:=h3
    rw[e] at hk;cases hk
    obtain⟨m,hm,g⟩:=RtN.wj h1 e h2 (show RtN qs 0 j j from⟨e,rfl⟩)
    exact⟨m,hm,g⟩
   |n+1,⟨k',e,_,h3⟩ =>
    rw[hk] at e;cases e
    obtain⟨m,hm,g⟩:=RtN.wj h1 hk h2 h3
    exact⟨m,by omega,g⟩
  exact hnx m _ (by omega) ⟨hs.trans (SameR.wj h1 hk h2),hm⟩
theorem rQ {c:Circ} (C:Cir c) {s:Si} (hs:VS c s) {np:Nat}{ps:List Nat}{pin:Int} (hp:pin+Int.ofNat 1=Int.ofNat s.pin) {K:Nat->Prop} (h:K (iL c s)):bV np (fsN c) ps s.node pin s.v K:=by
 have h1:=kQ hs
 have h2:=yP C
 have h3:=hs.v
 unfold iL at h1
 unfold bV
 exact⟨_,DE hs.node,s.pin,hp,by omega,by omega,by omega,by omega,by omega,h⟩
abbrev EdgeI (c:Circ) (es:List (Si×Si)) (ps:List Nat):Prop:=UfI (VS c) (iL c) (fun u w=>(u,w)∈es) ps (npN c)
theorem UfI.congr {α:Type}{V:α->Prop}{num:α->Nat}{E F:α->α->Prop}{ps:List Nat}{np:Nat} (U:UfI V num E ps np) (h:∀ a b,E a b↔F a b):UfI V num F ps np:=by
 have:E=F:=by funext a b;exact propext (h a b)
 exact this ▸ U
theorem zx {c:Circ}{es:List (Si×Si)}{ps:List Nat} (U:EdgeI c es ps) {x y:Si} (hx:VS c x) (hy:VS c y) {fs:List Nat}{K:List Nat->Prop} (h:∀ qs,EdgeI c (es++[(x,y)]) qs->K qs):dv (npN c) fs ps (iL c x) (iL c y) K:=by
 obtain⟨rx,hrx⟩:=U.fo (iL c x) (U.len ▸ kQ hx)
 obtain⟨ry,hry⟩:=U.fo (iL c y) (U.len ▸ kQ hy)
 unfold dv
 refine pb U.len hrx fun qs hq=>?_
 have U1:=U.same hq
 refine pb U1.len (hq.rt _ _ hry) fun qs2 hq2=>?_
 have U2:=U1.same hq2
 have h1:=hq2.rt _ _ (hq.rt _ _ hrx)
 have h2:=hq2.rt _ _ (hq.rt _ _ hry)
 refine⟨by rw[<- U2.len];exact h1.lt,_,h1.root,h _ ((U2.join hx hy h1 h2).congr fun a b=>?_)⟩
 rw[List.mem_append,List.mem_singleton,Prod.mk.injEq]
theorem qP {k:Nat}{K:Rul×Bool->Prop} (h5:k=5->K (⟨0,0⟩,true)) (h6:k=6->K (⟨0,1⟩,true)) (h7:k=7->K (⟨1,1⟩,true)) (h8:k=8->K (⟨1,0⟩,true)) (h:k≠5->k≠6->k≠7->k≠8->K (⟨0,0⟩,false)):bm k K :=
 ⟨fun q=>h5 (bO.1 q),fun q5=>⟨fun q=>h6 (bO.1 q),fun q6=>⟨fun q=>h7 (bO.1 q),fun q7=>⟨fun q=>h8 (bO.1 q),fun q8=>h (cx.1 q5) (cx.1 q6) (cx.1 q7) (cx.1 q8)⟩⟩⟩⟩
theorem Bs {x:Node}{K:List Rul->Prop} (h:K (eqR x.kind x.ins.length)):cK x K:=by
 have fin:(x.kind≠3)->¬ (x.kind=13/\x.ins.length=1)->x.kind≠4->bm x.kind (fun r2=>(r2.2=true->K ([(⟨r2.1.pin,r2.1.out⟩:Rul)]:(List Rul)))/\(r2.2=false->K ([]))):=by
  intro h3 h13 h4
  have e:eqR x.kind x.ins.length=if x.kind=5 then [⟨0,0⟩] else if x.kind=6 then [⟨0,1⟩] else if x.kind=7 then [⟨1,1⟩] else if x.kind=8 then [⟨1,0⟩] else []:=by
   unfold eqR
   rw[if_neg (fun q=>q.elim h3 h13),if_neg h4]
  rw[e] at h
  refine qP (fun q=>?_) (fun q=>?_) (fun q=>?_) (fun q=>?_) fun q5 q6 q7 q8=>?_
  ·exact⟨fun _=>by simpa[q] using h,fun q=>by cases q⟩
  ·exact⟨fun _=>by simpa[q] using h,fun q=>by cases q⟩
  ·exact⟨fun _=>by simpa[q] using h,fun q=>by cases q⟩
  ·exact⟨fun _=>by simpa[q] using h,fun q=>by cases q⟩
  ·exact⟨(fun q=>by cases q),fun _=>by simpa[q5,q6,q7,q8] using h⟩
 unfold cK
 refine⟨fun q=>?_,fun q3=>⟨fun q13=>⟨fun q1=>?_,fun q1=>?_⟩,fun q13=>⟨fun q4=>?_,fun q4=>?_⟩⟩⟩
 ·have q:=bO.1 q
  simpa[eqR,q] using h
 ·have q13:=bO.1 q13
  have q1:=bO.1 q1
  simpa[eqR,q13,q1] using h
 ·have q13:=bO.1 q13
  exact fin (cx.1 q3) (fun q=>cx.1 q1 q.2) (by omega)
 ·have q4:=bO.1 q4
  simpa[eqR,q4] using h
 ·exact fin (cx.1 q3) (fun q=>cx.1 q13 q.1) (cx.1 q4)
theorem Bl {l:List Nat}{x:Nat} (hl:l.length<2 ^ 60) {K:Int->Prop} (h1:x∈l->∀ i:Nat,K (Int.ofNat i)) (h2:x ∉ l->K (Int.negSucc 0)):gu l x K:=by
 unfold gu
 refine aD (fun i=>i<=l.length/\x ∉ l.take i) (fun i=>l.length-i) (fun _=>x ∉ l) ?_ ⟨Nat.zero_le _,by simp⟩ (fun _ q=>h2 q)
 rintro k i nx ⟨hi,hn⟩ hnx hk
 refine⟨fun q=>?_,fun q=>hk _ ?_⟩
 ·have q:i<l.length:=aV.1 q
  obtain⟨y,hy⟩:=aA q
  refine⟨y,hy,fun e=>h1 ?_ i,fun e=>⟨by omega,hnx _ ⟨q,?_⟩ (by omega)⟩⟩
  ·rw[bO.1 e];exact List.mem_of_getElem? hy
  ·rw[nm hy,bb]
   exact fun m=>m.elim hn (cx.1 e)
 ·have q:l.length<=i:=bg.1 q
  rw[List.take_of_length_le q] at hn
  exact hn
theorem vn {l:List Nat}{x:Nat} (hl:l.length<2 ^ 60) {K:Bool->Prop} (h:K (decide (x∈l))):dI l x K:=by
 unfold dI
 refine Bl hl (fun m i=>?_) fun m=>?_
 ·rw[decide_eq_true m] at h
  rw[rG i];exact h
 ·rw[decide_eq_false m] at h
  exact h
theorem zR {c:Circ}{n:Nat}{x:Node} (hx:c.nodes[n]?=some x) {r:Rul} (hr:r∈eqR x.kind x.ins.length):VS c ⟨n,0,r.out⟩:=⟨aj hx,Nat.zero_le _,(rP hr).2⟩
theorem AN {c:Circ}{n j:Nat}{x:Node} (hx:c.nodes[n]?=some x) (hj:j<x.ins.length) {r:Rul} (hr:r∈eqR x.kind x.ins.length):VS c ⟨n,j+1,r.pin⟩:=⟨aj hx,by rw[bK hx];exact hj,(rP hr).1⟩
theorem zA {c:Circ}{n:Nat}{l:Ln} (h:l∈fanOf c n):∃ x,c.nodes[l.node]?=some x/\x.ins[l.pin]?=some n:=by
 unfold fanOf at h
 obtain⟨p,h1,h2⟩:=List.mem_flatMap.1 h
 unfold bB at h2
 obtain⟨q,hq,rfl⟩:=List.mem_map.1 h2
 obtain⟨hq1,hq2⟩:=List.mem_filter.1 hq
 have h1:=List.mem_zipIdx_iff_getElem?.1 h1
 have hq1:=List.mem_zipIdx_iff_getElem?.1 hq1
 have hq2:q.1=n:=by simpa using hq2
 exact⟨p.1,h1,hq2 ▸ hq1⟩
theorem pk {c:Circ}{n:Nat}{l:Ln} (h:nw c n=some l):fanOf c n=[l]/\n ∉ c.outs:=by
 unfold nw at h
 split at h
 ·rename_i l' e
  split at h
  ·cases h
  ·cases h
   exact⟨e,by assumption⟩
 ·cases h
theorem AQ {c:Circ} (C:Cir c) {K:List Nat×List Nat×Nat->Prop} (h:∀ ps,EdgeI c (edgesN c) ps->K (fsN c,ps,npN c)):dy c K:=by
 have hlen:=C.len
 have hnp:=yP C
 unfold dy
 refine DG C ?_
 have U0:EdgeI c [] (List.range (npN c)):=by
  have hr:∀ i r,Rt (List.range (npN c)) i r->i=r:=by
   rintro i r ⟨n,h⟩
   cases n with
   |zero=>exact h.2
   |succ n =>
    obtain⟨j,h1,h2,_⟩:=h
    obtain⟨h3,h4⟩:=List.getElem?_eq_some_iff.1 h1
    rw[List.getElem_range] at h4
    exact absurd h4.symm h2
  refine⟨List.length_range,fun i hi=>⟨i,Rt.self ?_⟩,fun a ha=>kQ ha,fun a b r s ha hb h1 h2=>?_⟩
  ·rw[List.length_range] at hi
   exact List.getElem?_range hi
  ·rw[<- hr _ _ h1,<- hr _ _ h2]
   constructor
   ·intro e
    rw[B5 ha hb e];exact .refl _
   ·intro q
    have:a=b:=q.inv (f:=id) (fun _ _ m=>by cases m)
    rw[this]
 refine aD (fun s=>s.2<=c.nodes.length/\EdgeI c (fR c s.2) s.1) (fun s=>c.nodes.length-s.2) (fun s=>EdgeI c (fR c c.nodes.length) s) ?_ ⟨Nat.zero_le _,(show EdgeI c (fR c 0) (List.range (npN c)) from U0)⟩ ?_
 ·rintro k ⟨ps,i⟩ nx ⟨hi,hU⟩ hnx hk
  dsimp only at hi hU
  refine⟨fun q=>?_,fun q=>hk _ ?_⟩
  ·have q:i<c.nodes.length:=aV.1 q
   obtain⟨x,hx⟩:=aA q
   have hfew:=(C.good.node i x hx).few
   refine fb (fun s=>EdgeI c (fR c (i+1)) s) (fun k2 hk2=>⟨x,hx,Bs ?_⟩) fun ps2 hU2=>⟨by omega,hnx _ ⟨q,hU2⟩ (by dsimp only;omega)⟩
   have hlen2:=Dx x.kind x.ins.length
   refine aW (fun s=>s.2<=(eqR x.kind x.ins.length).length/\EdgeI c (fR c i++((eqR x.kind x.ins.length).take s.2).flatMap (yk c i)) s.1) (fun s=>(eqR x.kind x.ins.length).length-s.2) ?_ ⟨Nat.zero_le _,by simpa using hU⟩
   rintro⟨ps,t⟩ nx3 ⟨ht,hU⟩ hnx3
   dsimp only at ht hU
   refine⟨fun q3=>?_,fun q3=>hk2 _ ?_⟩
   ·have q3:t<(eqR x.kind x.ins.length).length:=aV.1 q3
    obtain⟨r,hr⟩:=aA q3
    have hrm:=List.mem_of_getElem? hr
    refine fb (fun s=>EdgeI c (fR c i++((eqR x.kind x.ins.length).take t).flatMap (yk c i)++yk c i r) s) (fun k4 hk4=>⟨r,hr,?_⟩) fun ps2 hU2=>⟨by omega,hnx3 _ ⟨q3,?_⟩ (by dsimp only;omega)⟩
    ·refine aW (fun s=>s.2<=x.ins.length/\EdgeI c (fR c i++((eqR x.kind x.ins.length).take t).flatMap (yk c i)++(List.range s.2).map (D7 i r)) s.1) (fun s=>x.ins.length-s.2) ?_ ⟨Nat.zero_le _,by simpa using hU⟩
     rintro⟨ps,j⟩ nx5 ⟨hj,hU⟩ hnx5
     dsimp only at hj hU
     refine⟨fun q5=>?_,fun q5=>hk4 _ ?_⟩
     ·have q5:j<x.ins.length:=aV.1 q5
      have v1:=AN hx q5 hrm
      have v2:=zR hx hrm
      refine rQ C v1 (by simp only[Int.ofNat_eq_natCast];omega) (rQ C v2 (by rfl) (zx hU v1 v2 fun qs hQ=>⟨by omega,hnx5 _ ⟨q5,?_⟩ (by dsimp only;omega)⟩))
      dsimp only
      rw[List.range_succ,List.map_append,<- List.append_assoc]
      exact hQ
     ·have q5:x.ins.length<=j:=bg.1 q5
      obtain rfl:j=x.ins.length:=by omega
      have e:yk c i r=(List.range x.ins.length).map (D7 i r):=by unfold yk;rw[bK hx]
      rw[e];exact hU
    ·dsimp only
     rw[nm hr,List.flatMap_append,<- List.append_assoc]
     simpa using hU2
   ·have q3:(eqR x.kind x.ins.length).length<=t:=bg.1 q3
    rw[List.take_of_length_le q3] at hU
    rw[vV]
    unfold BN
    rw[bK hx,fE hx]
    exact hU
  ·have q:c.nodes.length<=i:=bg.1 q
   obtain rfl:i=c.nodes.length:=by omega
   exact hU
 ·intro ps1 hU1
  refine fb (fun s=>EdgeI c (edgesN c) s) (fun k hk=>⟨C.good.fanOk,?_⟩) (fun ps hU=>h ps hU)
  have hfl:(CF c).length=c.nodes.length:=by unfold CF mV;simp
  refine aW (fun s=>s.2<=c.nodes.length/\EdgeI c (fR c c.nodes.length++jS c s.2) s.1) (fun s=>c.nodes.length-s.2) ?_ ⟨Nat.zero_le _,by simpa[jS] using hU1⟩
  rintro⟨ps,i⟩ nx ⟨hi,hU⟩ hnx
  dsimp only at hi hU
  refine⟨fun q=>?_,fun q=>hk _ ?_⟩
  ·have q:i<c.nodes.length:=hfl ▸ aV.1 q
   have hget:(CF c)[i]?=some ((fanOf c i).map Ln.toZ):=by
    unfold CF
    rw[List.getElem?_map,rN q];rfl
   refine fb (fun s=>EdgeI c (fR c c.nodes.length++jS c (i+1)) s) (fun k2 hk2=>⟨_,hget,?_⟩) fun ps2 hU2=>⟨by omega,hnx _ ⟨q,hU2⟩ (by dsimp only;omega)⟩
   refine fb (fun b=>b=(nw c i).isSome) (fun k3 hk3=>⟨fun e=>?_,fun e=>hk3 _ ?_⟩) ?_
   ·have e:=bO.1 e
    rw[List.length_map] at e
    obtain⟨l,hl⟩:=List.length_eq_one_iff.1 e
    refine vn (by have:=C.good.outsLen;omega) (hk3 _ ?_)
    unfold nw
    rw[hl]
    by_cases m:i∈c.outs
    ·simp[m]
    ·simp[m]
   ·have e:=cx.1 e
    rw[List.length_map] at e
    unfold nw
    split
    ·rename_i l hl
     rw[hl] at e;exact absurd rfl e
    ·rfl
   ·rintro b rfl
    cases hs:nw c i with
    |none =>
     refine⟨fun q=>(by cases q),fun _=>hk2 _ ?_⟩
     rw[qo]
     unfold AK
     rw[hs,List.append_nil]
     exact hU
    |some l =>
     refine⟨fun _=>?_,fun q=>by cases q⟩
     obtain⟨hl,_⟩:=pk hs
     obtain⟨x,hx,hp⟩:=zA (c:=c) (n:=i) (l:=l) (by rw[hl];exact List.mem_singleton.2 rfl)
     have hE:jS c (i+1)=jS c i++[(⟨i,0,0⟩,⟨l.node,l.pin+1,0⟩),(⟨i,0,1⟩,⟨l.node,l.pin+1,1⟩)]:=by
      rw[qo]
      unfold AK
      rw[hs]
     rw[hE] at hk2
     refine aW (fun s=>s.2<=2/\EdgeI c (fR c c.nodes.length++jS c i++([(⟨i,0,0⟩,⟨l.node,l.pin+1,0⟩),(⟨i,0,1⟩,⟨l.node,l.pin+1,1⟩)]:List (Si×Si)).take s.2) s.1) (fun s=>2-s.2) ?_ ⟨Nat.zero_le _,by simpa using hU⟩
     rintro⟨ps,v⟩ nx4 ⟨hv,hU⟩ hnx4
     dsimp only at hv hU
     refine⟨fun q4=>?_,fun q4=>hk2 _ ?_⟩
     ·have q4:v<=1:=lZ.1 q4
      have v1:VS c ⟨i,0,v⟩:=⟨q,Nat.zero_le _,q4⟩
      have v2:VS c ⟨l.node,l.pin+1,v⟩:=⟨aj hx,by rw[bK hx];exact aj hp,q4⟩
      have hg:((fanOf c i).map Ln.toZ)[0]?=some l.toZ:=by rw[hl];rfl
      refine rQ C v1 (by rfl) ⟨_,hg,_,hg,rQ C v2 (by unfold Ln.toZ;simp only[Int.ofNat_eq_natCast];omega) (zx hU v1 v2 fun qs hQ=>⟨by omega,hnx4 _ ⟨by dsimp only;omega,?_⟩ (by dsimp only;omega)⟩)⟩
      dsimp only
      rw[List.append_assoc] at hQ
      have hv:v=0\/v=1:=by omega
      rcases hv with rfl|rfl
      ·exact hQ
      ·exact hQ
     ·have q4:1<v:=oU.1 q4
      obtain rfl:v=2:=by omega
      rw[<- List.append_assoc]
      exact hU
  ·have q:c.nodes.length<=i:=hfl ▸ bg.1 q
   obtain rfl:i=c.nodes.length:=by omega
   exact hU
instance decVS (c:Circ) (s:Si):Decidable (VS c s):=decidable_of_iff (s.node<c.nodes.length/\s.pin<=(insOf c s.node).length/\s.v<=1) ⟨fun ⟨a,b,d⟩=>⟨a,b,d⟩,fun h=>⟨h.node,h.pin,h.v⟩⟩
def DU (c:Circ) (n v:Nat):Option Rul:=(eqR (kd c n) (insOf c n).length).find? fun r=>r.pin==v
def BA (c:Circ) (s:Si):Option Si :=
 if s.pin=0 then (nw c s.node).map fun l=>⟨l.node,l.pin+1,s.v⟩ else (DU c s.node s.v).map fun r=>⟨s.node,0,r.out⟩
def down (c:Circ) (s:Si):Option Si:=if VS c s then BA c s else none
theorem xx {k n v:Nat}{r:Rul}:(eqR k n).find? (fun r=>r.pin==v)=some r↔r∈eqR k n/\r.pin=v:=by
 constructor
 ·intro h
  exact⟨List.mem_of_find?_eq_some h,by simpa using List.find?_some h⟩
 ·rintro⟨m,rfl⟩
  unfold eqR at m ⊢
  split
  ·rename_i q
   rw[if_pos q] at m
   simp only[List.mem_cons,List.not_mem_nil,or_false] at m
   rcases m with rfl|rfl <;> rfl
  rename_i q
  rw[if_neg q] at m
  split
  ·rename_i q
   rw[if_pos q] at m
   simp only[List.mem_cons,List.not_mem_nil,or_false] at m
   rcases m with rfl|rfl <;> rfl
  rename_i q
  rw[if_neg q] at m
  split
  ·rename_i q
   rw[if_pos q,List.mem_singleton] at m
   subst m;rfl
  rename_i q
  rw[if_neg q] at m
  split
  ·rename_i q
   rw[if_pos q,List.mem_singleton] at m
   subst m;rfl
  rename_i q
  rw[if_neg q] at m
  split
  ·rename_i q
   rw[if_pos q,List.mem_singleton] at m
   subst m;rfl
  rename_i q
  rw[if_neg q] at m
  split
  ·rename_i q
   rw[if_pos q,List.mem_singleton] at m
   subst m;rfl
  rename_i q
  rw[if_neg q] at m
  cases m
theorem lG {c:Circ}{n j v:Nat}{w:Si}:down c ⟨n,j+1,v⟩=some w↔n<c.nodes.length/\j<(insOf c n).length/\∃ r∈eqR (kd c n) (insOf c n).length,r.pin=v/\w=⟨n,0,r.out⟩:=by
 unfold down BA DU
 by_cases V:VS c ⟨n,j+1,v⟩
 ·rw[if_pos V,if_neg (by simp)]
  constructor
  ·intro h
   obtain⟨r,hr,rfl⟩:=Option.map_eq_some_iff.1 h
   obtain⟨h1,h2⟩:=xx.1 hr
   exact⟨V.node,V.pin,r,h1,h2,rfl⟩
  ·rintro⟨_,_,r,h1,h2,rfl⟩
   exact Option.map_eq_some_iff.2 ⟨r,xx.2 ⟨h1,h2⟩,rfl⟩
 ·rw[if_neg V]
  constructor
  ·intro h;cases h
  ·rintro⟨h1,h2,r,h3,rfl,_⟩
   exact absurd ⟨h1,h2,(rP h3).1⟩ V
theorem ko {c:Circ}{n v:Nat}{w:Si}:down c ⟨n,0,v⟩=some w↔n<c.nodes.length/\v<=1/\∃ l,nw c n=some l/\w=⟨l.node,l.pin+1,v⟩:=by
 unfold down BA
 by_cases V:VS c ⟨n,0,v⟩
 ·rw[if_pos V,if_pos rfl]
  constructor
  ·intro h
   obtain⟨l,hl,rfl⟩:=Option.map_eq_some_iff.1 h
   exact⟨V.node,V.v,l,hl,rfl⟩
  ·rintro⟨_,_,l,hl,rfl⟩
   exact Option.map_eq_some_iff.2 ⟨l,hl,rfl⟩
 ·rw[if_neg V]
  constructor
  ·intro h;cases h
  ·rintro⟨h1,h2,_⟩
   exact absurd ⟨h1,Nat.zero_le _,h2⟩ V
theorem sF {c:Circ}{n:Nat}{l:Ln} (h:nw c n=some l):∃ x,c.nodes[l.node]?=some x/\x.ins[l.pin]?=some n :=
 zA (by rw[(pk h).1];exact List.mem_singleton.2 rfl)
theorem CM {c:Circ}{u w:Si} (h:down c u=some w):VS c u/\VS c w:=by
 have hu:VS c u:=by
  unfold down at h
  split at h
  ·assumption
  ·cases h
 refine⟨hu,?_⟩
 obtain⟨n,p,v⟩:=u
 cases p with
 |zero =>
  obtain⟨h1,h2,l,hl,rfl⟩:=ko.1 h
  obtain⟨x,hx,hp⟩:=sF hl
  exact⟨aj hx,by rw[bK hx];exact aj hp,h2⟩
 |succ j =>
  obtain⟨h1,h2,r,hr,_,rfl⟩:=lG.1 h
  exact⟨h1,Nat.zero_le _,(rP hr).2⟩
theorem AF {c:Circ}{u w:Si}:(u,w)∈edgesN c↔down c u=some w:=by
 unfold edgesN
 rw[List.mem_append]
 constructor
 ·rintro (m|m)
  ·obtain⟨n,hn,m⟩:=List.mem_flatMap.1 m
   obtain⟨r,hr,m⟩:=List.mem_flatMap.1 m
   obtain⟨j,hj,e⟩:=List.mem_map.1 m
   obtain⟨rfl,rfl⟩:=Prod.mk.inj e
   exact lG.2 ⟨List.mem_range.1 hn,List.mem_range.1 hj,r,hr,rfl,rfl⟩
  ·obtain⟨n,hn,m⟩:=List.mem_flatMap.1 m
   unfold AK at m
   split at m
   ·rename_i l hl
    simp only[List.mem_cons,List.not_mem_nil,or_false,Prod.mk.injEq] at m
    rcases m with⟨rfl,rfl⟩|⟨rfl,rfl⟩
    ·exact ko.2 ⟨List.mem_range.1 hn,by decide,l,hl,rfl⟩
    ·exact ko.2 ⟨List.mem_range.1 hn,by decide,l,hl,rfl⟩
   ·cases m
 ·intro h
  obtain⟨n,p,v⟩:=u
  cases p with
  |zero =>
   obtain⟨h1,h2,l,hl,rfl⟩:=ko.1 h
   refine .inr (List.mem_flatMap.2 ⟨n,List.mem_range.2 h1,?_⟩)
   unfold AK
   rw[hl]
   have:v=0\/v=1:=by omega
   rcases this with rfl|rfl <;> simp
  |succ j =>
   obtain⟨h1,h2,r,hr,rfl,rfl⟩:=lG.1 h
   exact .inl (List.mem_flatMap.2 ⟨n,List.mem_range.2 h1,List.mem_flatMap.2 ⟨r,hr,List.mem_map.2 ⟨j,List.mem_range.2 h2,rfl⟩⟩⟩)
theorem pv {k n:Nat}{r:Rul} (h:r∈eqR k n):3<=k/\k<=13:=by
 unfold eqR at h
 split at h
 ·omega
 split at h
 ·omega
 split at h
 ·omega
 split at h
 ·omega
 split at h
 ·omega
 split at h
 ·omega
 ·cases h
theorem yS {n:Nat} (h:Arity 0 n):n=0:=by
 obtain⟨h1,h2⟩:=h
 have e2:hiZ 0=0:=by decide
 rw[e2] at h2
 have:(Int.ofNat n)=(n:Int):=rfl
 omega
def lvl (c:Circ) (s:Si):Nat:=if s.pin=0 then 2*(16-s.node)+1 else if kd c s.node=14 then 0 else 2*(16-s.node)+2
theorem Et (c:Circ) (s:Si):lvl c s<=34:=by
 unfold lvl
 split
 ·omega
 ·split <;> omega
theorem Cl {c:Circ} (C:Cir c) (u w:Si) (h:down c u=some w):lvl c w<lvl c u:=by
 have hlen:=C.len
 obtain⟨n,p,v⟩:=u
 cases p with
 |zero =>
  obtain⟨h1,h2,l,hl,rfl⟩:=ko.1 h
  obtain⟨x,hx,hp⟩:=sF hl
  unfold lvl
  rw[if_pos rfl,if_neg (by simp)]
  dsimp only
  split
  ·omega
  ·rename_i q
   rw[fE hx] at q
   have hk:=C.kinds _ _ hx
   have g:=C.good.node _ _ hx
   have hk0:x.kind≠0:=fun e=>by
    have a:=g.arity
    rw[e] at a
    have:=yS a
    have:=aj hp
    omega
   have:=g.acyc (by omega) (by omega) n (List.mem_of_getElem? hp)
   have:=aj hx
   omega
 |succ j =>
  obtain⟨h1,h2,r,hr,rfl,rfl⟩:=lG.1 h
  have:=pv hr
  unfold lvl
  rw[if_pos rfl,if_neg (by simp),if_neg (by dsimp only;omega)]
  dsimp only
  omega
def clsN (c:Circ) (s:Si):Si:=kJ (down c) 34 s
theorem Ew {c:Circ} (C:Cir c) {a b:Si}:Cn (fun u w=>(u,w)∈edgesN c) a b↔clsN c a=clsN c b:=by
 have:=ED (down:=down c) (Cl C) (N:=34) (Et c) (a:=a) (b:=b)
 unfold clsN
 rw[<- this]
 have e:(fun u w=>(u,w)∈edgesN c)=fun u w=>down c u=some w:=by
  funext u w;exact propext AF
 rw[e]
theorem C9 {c:Circ}{P:Si->Si->Prop} (h0:∀ a,VS c a->P a a) (h1:∀ a b d,down c a=some b->P b d->P a d) {a:Si} (ha:VS c a):P a (clsN c a):=by
 have key:∀ n a,VS c a->P a (kJ (down c) n a):=by
  intro n
  induction n with
  |zero=>intro a ha;exact h0 a ha
  |succ n ih =>
   intro a ha
   rw[kJ]
   cases e:down c a with
   |none=>exact h0 a ha
   |some b=>exact h1 a b _ e (ih b (CM e).2)
 exact key 34 a ha
def fltS (s:Si):Flt:=⟨0,⟨s.node,Int.ofNat s.pin-1⟩,s.v,0⟩
theorem zi (n j v:Nat):fltS ⟨n,j+1,v⟩=⟨0,⟨n,Int.ofNat j⟩,v,0⟩:=by
 unfold fltS
 have:Int.ofNat (j+1)-1=Int.ofNat j:=by simp only[Int.ofNat_eq_natCast];omega
 dsimp only
 rw[this]
theorem yD {c:Circ}{s:Si} (h:VS c s):StuckOk c (fltS s):=by
 have:=h.pin
 refine⟨rfl,h.v,rfl,h.node,?_,?_⟩
 ·unfold fltS;simp only[Int.ofNat_eq_natCast];omega
 ·unfold fltS;simp only[Int.ofNat_eq_natCast];omega
theorem vg {s t:Si} (h:fltS s=fltS t):s=t:=by
 obtain⟨n,p,v⟩:=s
 obtain⟨n',p',v'⟩:=t
 unfold fltS at h
 simp only[Flt.mk.injEq,LnZ.mk.injEq,Int.ofNat_eq_natCast,and_true,true_and] at h
 obtain⟨⟨rfl,h2⟩,rfl⟩:=h
 obtain rfl:p=p':=by omega
 rfl
theorem D1 {c:Circ}{f:Flt} (F:StuckOk c f):∃ s,VS c s/\f=fltS s:=by
 obtain⟨m,⟨n,p⟩,v,o⟩:=f
 have h1:=F.model
 have h2:=F.value
 have h3:=F.other
 have h4:=F.node
 have h5:=F.pin1
 have h6:=F.pin2
 dsimp only at h1 h2 h3 h4 h5 h6
 subst h1 h3
 refine⟨⟨n,(p+1).toNat,v⟩,⟨h4,?_,h2⟩,?_⟩
 ·simp only[Int.ofNat_eq_natCast] at h6
  dsimp only;omega
 ·unfold fltS
  simp only[Flt.mk.injEq,LnZ.mk.injEq,Int.ofNat_eq_natCast,and_true,true_and]
  omega
theorem uW (n v:Nat):ntF (fltS ⟨n,0,v⟩)=kl n v:=rfl
theorem vH (n v:Nat):pnF (fltS ⟨n,0,v⟩)=idP:=rfl
theorem vS (n j v:Nat):ntF (fltS ⟨n,j+1,v⟩)=idN:=by
 rw[zi];unfold ntF
 rw[if_neg]
 simp only[Int.ofNat_eq_natCast];omega
theorem oz (n j v:Nat):pnF (fltS ⟨n,j+1,v⟩)=gT n (Int.ofNat j) v:=by
 rw[zi];unfold pnF
 rw[if_neg]
 simp only[Int.ofNat_eq_natCast];omega
theorem iV (n j v i q x:Nat):gT n (Int.ofNat j) v i q x=if i=n/\q=j then v else x:=by
 unfold gT
 by_cases h:i=n/\q=j
 ·rw[if_pos h,if_pos ⟨h.1,by rw[h.2]⟩]
 ·rw[if_neg h,if_neg]
  rintro⟨h1,h2⟩
  exact h ⟨h1,Int.ofNat.inj h2⟩
theorem gA {low high:Nat}:∀ {l:List Nat}{o:Nat},low∈l->dp low high l o=low
 |a::l,o,h=>by
  rw[dp]
  split
  ·rfl
  ·rename_i q
   rcases List.mem_cons.1 h with e|e
   ·exact absurd e.symm q
   ·exact gA e
theorem Al {k n j:Nat}{l:List Nat}{r:Rul} (ha:Arity k n) (hl:l.length=n) (hr:r∈eqR k n) (hj:l[j]?=some r.pin):iB k l=r.out:=by
 have hm:=List.mem_of_getElem? hj
 unfold eqR at hr
 split at hr
 ·rename_i q
  have h1:n=1:=by
   rcases q with rfl|q
   ·exact uz ha
   ·exact q.2
  obtain⟨a,rfl⟩:=List.length_eq_one_iff.1 (hl.trans h1)
  obtain rfl:r.pin=a:=List.mem_singleton.1 hm
  simp only[List.mem_cons,List.not_mem_nil,or_false] at hr
  rcases q with rfl|⟨rfl,_⟩
  ·rcases hr with rfl|rfl <;> decide
  ·rcases hr with rfl|rfl <;> decide
 split at hr
 ·rename_i q
  subst q
  obtain⟨a,rfl⟩:=List.length_eq_one_iff.1 (hl.trans (tT ha))
  obtain rfl:r.pin=a:=List.mem_singleton.1 hm
  simp only[List.mem_cons,List.not_mem_nil,or_false] at hr
  rcases hr with rfl|rfl <;> decide
 split at hr
 ·rename_i q
  subst q
  rw[List.mem_singleton] at hr
  subst hr
  show dp 0 1 l 1=0
  exact gA hm
 split at hr
 ·rename_i q
  subst q
  rw[List.mem_singleton] at hr
  subst hr
  show na (dp 0 1 l 1)=1
  rw[gA hm];rfl
 split at hr
 ·rename_i q
  subst q
  rw[List.mem_singleton] at hr
  subst hr
  show dp 1 0 l 0=1
  exact gA hm
 split at hr
 ·rename_i q
  subst q
  rw[List.mem_singleton] at hr
  subst hr
  show na (dp 1 0 l 0)=0
  rw[gA hm];rfl
 ·cases hr
theorem zQ {k n:Nat}{r:Rul} (h:r∈eqR k n):combB k=true:=by
 have:=pv h
 unfold combB
 exact decide_eq_true (by omega)
theorem xt {c:Circ}{s:Nat} (h:s∈ofN c [14]):kd c s=14:=(cP.1 h).2
theorem CP {c:Circ} (C:Cir c) {p:Pat} (hp:PatOk c p) {n j v:Nat}{w:Si} (h:down c ⟨n,j+1,v⟩=some w):gK c p (fltS ⟨n,j+1,v⟩)=gK c p (fltS w):=by
 obtain⟨h1,h2,r,hr,rfl,rfl⟩:=lG.1 h
 obtain⟨x,hx⟩:=aA h1
 rw[fE hx,bK hx] at hr
 rw[bK hx] at h2
 have hle:=rP hr
 have hv1:∀ i v,v<=3->kl n r.out i v<=3:=mK (by omega)
 have T:=lL C hp og (kO (a:=n) (w:=r.pin) (pin:=Int.ofNat j) (by omega))
 have hS:Sol c p (kl n r.out) idP (sol c p idN (gT n (Int.ofNat j) r.pin)):=by
  refine⟨T.len,fun i y hy=>?_,T.le⟩
  rw[T.val i y hy]
  by_cases q:i=n
  ·subst q
   rw[hx] at hy;cases hy
   show baseV _ _ _ _ _ _=kl _ _ _ _
   unfold kl
   rw[if_pos rfl,gP (zQ hr)]
   refine Al (C.good.node _ _ hx).arity fC hr (j:=j) ?_
   obtain⟨m,hm⟩:=aA h2
   rw[jV hm,iV,if_pos ⟨rfl,rfl⟩]
  ·show baseV _ _ _ _ _ _=kl _ _ _ _
   unfold kl
   rw[if_neg q]
   have:cG (gT n (Int.ofNat j) r.pin) (sol c p idN (gT n (Int.ofNat j) r.pin)) i y=cG idP (sol c p idN (gT n (Int.ofNat j) r.pin)) i y:=by
    unfold cG
    congr 1
    funext q2 k
    rw[iV,if_neg (fun e=>q e.1)];rfl
   unfold baseV
   rw[this]
 have e:=hS.is C hp hv1 mc
 unfold gK lD
 rw[vS,oz,uW,vH,<- e]
 congr 1
 unfold nC
 congr 1
 refine List.map_congr_left fun s hs=>?_
 rw[iV,if_neg]
 ·rfl
 ·rintro⟨rfl,_⟩
  have:=xt hs
  rw[fE hx] at this
  have:=pv hr
  omega
theorem C6 {c:Circ}{n i q:Nat}{x:Node} (hx:c.nodes[i]?=some x) (hq:x.ins[q]?=some n):(⟨i,q⟩:Ln)∈fanOf c n:=by
 unfold fanOf
 refine List.mem_flatMap.2 ⟨(x,i),List.mem_zipIdx_iff_getElem?.2 hx,?_⟩
 unfold bB
 exact List.mem_map.2 ⟨(n,q),List.mem_filter.2 ⟨List.mem_zipIdx_iff_getElem?.2 hq,by simp⟩,rfl⟩
theorem getD_set_ne {t:List Nat}{n i v:Nat} (h:i≠n):(t.set n v).getD i 0=t.getD i 0:=by
 rw[List.getD,List.getD,List.getElem?_set_ne (fun e=>h e.symm)]
theorem jL {t:List Nat}{n v:Nat} (h:n<t.length):(t.set n v).getD n 0=v:=by
 rw[List.getD,List.getElem?_set_self h];rfl
theorem Bb {c:Circ} (C:Cir c) {s:Nat} (hs:s∈ofN c [14]):∃ x,c.nodes[s]?=some x/\x.kind=14/\dOf c s<c.nodes.length/\x.ins[0]?=some (dOf c s):=by
 obtain⟨h1,h2⟩:=cP.1 hs
 obtain⟨x,hx⟩:=aA h1
 rw[fE hx] at h2
 have ha:x.ins.length=1:=by have:=(C.good.node s x hx).arity;rw[h2] at this;exact pC this
 have hg:x.ins[0]?=some (dOf c s):=by
  unfold dOf
  rw[bK hx]
  exact getD_some (by omega)
 exact⟨x,hx,h2,(C.good.node s x hx).ins _ (List.mem_of_getElem? hg),hg⟩
theorem DK {c:Circ} (C:Cir c) {p:Pat} (hp:PatOk c p) {n v:Nat}{w:Si} (h:down c ⟨n,0,v⟩=some w):gK c p (fltS ⟨n,0,v⟩)=gK c p (fltS w):=by
 obtain⟨h1,h2,⟨k,j⟩,hl,rfl⟩:=ko.1 h
 obtain⟨hf,ho⟩:=pk hl
 obtain⟨x,hx,hj⟩:=sF hl
 dsimp only at hx hj ⊢
 have T:=lL C hp og (kO (a:=k) (w:=v) (pin:=Int.ofNat j) (by omega))
 obtain⟨t,ht⟩:∃ t,sol c p idN (gT k (Int.ofNat j) v)=t:=⟨_,rfl⟩
 have hone:∀ i q (y:Node),c.nodes[i]?=some y->y.ins[q]?=some n->i=k/\q=j:=by
  intro i q y hy hq
  have:=C6 hy hq
  rw[hf,List.mem_singleton] at this
  cases this;exact⟨rfl,rfl⟩
 rw[ht] at T
 have hn:n<t.length:=by rw[T.len];exact h1
 have hrd:∀ i (y:Node),c.nodes[i]?=some y->cG idP (t.set n v) i y=cG (gT k (Int.ofNat j) v) t i y:=by
  intro i y hy
  unfold cG
  apply List.ext_getElem?
  intro q
  rw[List.getElem?_mapIdx,List.getElem?_mapIdx]
  cases hq:y.ins[q]? with
  |none=>rfl
  |some m =>
   simp only[Option.map_some]
   rw[iV]
   show some ((t.set n v).getD m 0)=_
   by_cases e:m=n
   ·subst e
    rw[if_pos (hone i q y hy hq),jL hn]
   ·rw[getD_set_ne e,if_neg]
    rintro⟨rfl,rfl⟩
    rw[hx] at hy;cases hy
    rw[hj] at hq;cases hq
    exact e rfl
 have hS:Sol c p (kl n v) idP (t.set n v):=by
  refine⟨(List.length_set ..).trans T.len,fun i y hy=>?_,fun i=>?_⟩
  ·unfold kl
   by_cases q:i=n
   ·subst q
    rw[if_pos rfl,jL hn]
   ·rw[if_neg q,getD_set_ne q,T.val i y hy]
    show baseV _ _ _ _ _ _=_
    unfold baseV
    rw[hrd i y hy]
  ·by_cases q:i=n
   ·subst q
    rw[jL hn];omega
   ·rw[getD_set_ne q];exact T.le i
 have e:=hS.is C hp (mK (by omega)) mc
 unfold gK lD
 rw[vS,oz,uW,vH,<- e,ht]
 congr 1
 unfold nC
 congr 1
 ·refine List.map_congr_left fun o hm=>?_
  rw[getD_set_ne]
  rintro rfl
  exact ho hm
 ·refine List.map_congr_left fun s hs=>?_
  obtain⟨y,hy,hk,_,hd⟩:=Bb C hs
  rw[iV]
  have ed:(insOf c s).getD 0 0=dOf c s:=rfl
  rw[ed]
  show min ((t.set n v).getD (dOf c s) 0) 2=_
  by_cases q:dOf c s=n
  ·rw[q] at hd ⊢
   rw[if_pos (hone s 0 y hy hd),jL hn]
  ·rw[getD_set_ne q,if_neg]
   rintro⟨rfl,rfl⟩
   rw[hx] at hy;cases hy
   rw[hj] at hd;cases hd
   exact q rfl
theorem Bz {c:Circ} (C:Cir c) {p:Pat} (hp:PatOk c p) {u w:Si} (h:down c u=some w):gK c p (fltS u)=gK c p (fltS w):=by
 obtain⟨n,q,v⟩:=u
 cases q with
 |zero=>exact DK C hp h
 |succ j=>exact CP C hp h
theorem zg {c:Circ} (C:Cir c) {p:Pat} (hp:PatOk c p) {a:Si} (ha:VS c a):gK c p (fltS a)=gK c p (fltS (clsN c a)) :=
 C9 (P:=fun a d=>gK c p (fltS a)=gK c p (fltS d)) (fun _ _=>rfl) (fun _ _ _ h e=>(Bz C hp h).trans e) ha
theorem Bw {c:Circ} (C:Cir c) {p:Pat} (hp:PatOk c p) {a b:Si} (ha:VS c a) (hb:VS c b) (h:clsN c a=clsN c b):gK c p (fltS a)=gK c p (fltS b):=by
 rw[zg C hp ha,zg C hp hb,h]
theorem zr {kd:TypeDesc} (hk:eL kd=false) (a b:Flt):eJ Tryz.prog 54 kd (az a) (az b)=some (decide (a=b)):=by
 have he:lf Tryz.prog 54 (az a) (az b)=some ((Int.ofNat a.model==Int.ofNat b.model)&&(((Int.ofNat a.line.node==Int.ofNat b.line.node)&&((a.line.pin==b.line.pin)&&true))&&((Int.ofNat a.value==Int.ofNat b.value)&&((Int.ofNat a.other==Int.ofNat b.other)&&true)))):=by kernel_rfl
 have hd:decide (a=b)=((Int.ofNat a.model==Int.ofNat b.model)&&(((Int.ofNat a.line.node==Int.ofNat b.line.node)&&((a.line.pin==b.line.pin)&&true))&&((Int.ofNat a.value==Int.ofNat b.value)&&((Int.ofNat a.other==Int.ofNat b.other)&&true)))):=by
  rw[Bool.eq_iff_iff]
  simp only[decide_eq_true_eq,Bool.and_eq_true,beq_iff_eq,Bool.and_true]
  obtain⟨m,⟨n,p⟩,v,o⟩:=a
  obtain⟨m',⟨n',p'⟩,v',o'⟩:=b
  simp
  omega
 rw[hd]
 refine xT hk he rfl rfl fun h=>?_
 have:a=b:=by rw[<- hd] at h;exact of_decide_eq_true h
 subst this
 simp[pJ,Cu,i64,z64,n8]
set_option maxHeartbeats 8000000
abbrev EZ:Type:=(List Nat)×(List (List Nat))×(List Nat)×(List (Nat×Nat))×(List (Flt×Nat))×Nat
def aY (p0:Circ) (p1:List Flt) (K:((List Nat)×(List Nat)×Nat×(List (List Nat))×(List Nat)×(List (Nat×Nat)))->Prop):Prop :=
 dy p0 fun (fs,ps,np)=>an (α:=(List Nat)×(List (List Nat))×(List Nat)×(List (Nat×Nat))) (fun k=>au (S:=EZ) (fun (ps,R,os,cs,ot,i) nx =>
   ((ltN i p1.length)=true->∃ f,p1[i]?=some f /\
     an (α:=(List Nat)×(List (Nat×Nat))×(List (Flt×Nat))×Nat×Bool) (fun k2 =>
      ((eqN f.model 0)=true->bV np fs ps f.line.node f.line.pin f.value fun x=>bQ np fs ps x fun (ps,r) =>
        ((!(cq cs r).isSome)=true->k2 (ps,jt cs r R.length,ot,(cq cs r).getD 0,(cq cs r).isSome))/\((!(cq cs r).isSome)=false->k2 (ps,cs,ot,(cq cs r).getD 0,(cq cs r).isSome))) /\
      ((eqN f.model 0)=false ->
        ((!(cq ot f).isSome)=true->k2 (ps,cs,jt ot f R.length,(cq ot f).getD 0,(cq ot f).isSome))/\((!(cq ot f).isSome)=false->k2 (ps,cs,ot,(cq ot f).getD 0,(cq ot f).isSome))))
     fun (ps,cs,ot,at_,is)=>an (α:=(List (List Nat))×Nat) (fun k3=>((!is)=true->(R.length+1)*24<=2 ^ 47/\k3 (R++[[]],R.length))/\((!is)=false->k3 (R,at_)))
      fun (R,at_)=>∃ r,R[at_]?=some r/\(r.length+1)*8<=2 ^ 47/\(os.length+1)*8<=2 ^ 47/\i+1<2 ^ 63/\nx (ps,R.set at_ (r++[i]),os++[at_],cs,ot,i+1)) /\
   ((ltN i p1.length)=false->k (ps,R,os,cs))) (ps,[],[],[],[],0))
  fun (ps,R,os,cs)=>(∀ r∈R,r≠[])/\R.length<2 ^ 62/\K (fs,ps,np,R,os,cs)
def iP (gt:Nat) (ga:Option Nat) (gb np:Nat) (fs ps:List Nat) (gp:Nat) (ao:Option Nat) (X:List Rw) (af:Option Nat) (os:List Nat) (gm:Nat) (cs:List (Nat×Nat)) (go:Nat) (ot:List (Flt×Nat)) (L:List Slot):List Slot :=
 (some gt,.cells [ag 1 ga (fs.map i64),.slice (some ⟨gb,0,none⟩) np np] false)::(ga,.cells (flatC (fs.map i64)) false)::(some gb,.cells (flatC (ps.map i64)) false) ::
 (some gp,.cells [.pointer (some ⟨gt,0,none⟩),ag 1 ao (X.map eA),ag 1 af (os.map i64),.map (some gm)] false)::(ao,.cells (flatC (X.map eA)) false)::(af,.cells (flatC (os.map i64)) false) ::
 (some gm,.map (bN i64 i64 cs))::(some go,.map (bN az i64 ot))::(L++X.map gz)
theorem Dm {gt:Nat}{ga:Option Nat}{gb np:Nat}{fs ps:List Nat}{gp:Nat}{ao:Option Nat}{X:List Rw}{af:Option Nat}{os:List Nat}{gm:Nat}{cs:List (Nat×Nat)}{go:Nat}{ot:List (Flt×Nat)}{L:List Slot}{p:Slot}{h0 h:Heap}
  (O:Own vars h0 (p::iP gt ga gb np fs ps gp ao X af os gm cs go ot L) h):Own vars h0 (iP gt ga gb np fs ps gp ao X af os gm cs go ot (p::L)) h :=
 Own.gG (L:=L++X.map gz) (p::(iP gt ga gb np fs ps gp ao X af os gm cs go ot L).take 8) O [1,2,3,4,5,6,7,8,0] (by decide)
theorem oB {gt:Nat}{ga:Option Nat}{gb np:Nat}{fs ps:List Nat}{gp:Nat}{ao:Option Nat}{X:List Rw}{af:Option Nat}{os:List Nat}{gm:Nat}{cs:List (Nat×Nat)}{go:Nat}{ot:List (Flt×Nat)}{L:List Slot}{p:Slot}{h0 h:Heap}
  (O:Own vars h0 (iP gt ga gb np fs ps gp ao X af os gm cs go ot (p::L)) h):Own vars h0 (iP gt ga gb np fs ps gp ao X af os gm cs go ot L) h :=
 Own.gG (L:=L++X.map gz) ((iP gt ga gb np fs ps gp ao X af os gm cs go ot (p::L)).take 9) O [0,1,2,3,4,5,6,7] (by decide)
theorem ck {c:Circ}{l:List Flt}{L:List Slot}{K:((List Nat)×(List Nat)×Nat×(List (List Nat))×(List Nat)×(List (Nat×Nat)))->Prop} (hm:aY c l K) {h0 h:Heap} (O:Own vars h0 L h) :
  ∃ v h',CallD Tryz.prog NG 22 ⟨[aB c,ah 5 az l]⟩ h v h'/\∃ (fs ps:List Nat) (np:Nat) (R:List (List Nat)) (os:List Nat) (cs:List (Nat×Nat)) (gp gt:Nat) (ga:Option Nat) (gb:Nat) (ao af:Option Nat) (gm:Nat),K (fs,ps,np,R,os,cs)/\v=.pointer (some ⟨gp,0,none⟩) /\
   (ga=none->fs=[])/\(ao=none->R=[])/\(af=none->os=[])/\Own vars h0 ((some gp,.cells [.pointer (some ⟨gt,0,none⟩),ag 1 ao (R.map (aR 1 i64)),ag 1 af (os.map i64),.map (some gm)] false) ::
    (some gt,.cells [ag 1 ga (fs.map i64),.slice (some ⟨gb,0,none⟩) np np] false)::(ga,.cells (flatC (fs.map i64)) false)::(some gb,.cells (flatC (ps.map i64)) false) ::
    (ao,.cells (flatC (R.map (aR 1 i64))) false)::(af,.cells (flatC (os.map i64)) false)::(some gm,.map (bN i64 i64 cs))::L) h'/\True:=by
 unfold aY at hm
 refine fg Tryz.func22 ?_;conv=>whnf
 refine gX ?_
 refine fz ?_;refine gX ?_
 obtain⟨_,h,hcall,fs,ps,np,gt,ga,gb,hm,rfl,hga,O,_⟩:=om hm O
 refine⟨_,_,hcall,?_⟩;refine gH ?_
 refine O.new ((rfl:anew _ _ _=some (.map (bN i64 i64 ([]:List (Nat×Nat))),fun g=>.map (some g)))) fun gm h O=>?_;refine gH ?_
 refine O.new (nH rfl) fun gp h O=>?_;refine gH ?_
 refine gX ?_
 refine O.new ((rfl:anew _ _ _=some (.map (bN az i64 ([]:List (Flt×Nat))),fun g=>.map (some g)))) fun go h O=>?_;refine gH ?_
 apply Cs;conv=>whnf
 apply Cs;refine gH ?_
 have O:=(O.aN (.cells (flatC (([]:List Nat).map i64)) false)).aN (.cells (flatC (([]:List Rw).map eA)) false)
 have O:Own vars h0 (iP gt ga gb np fs ps gp none [] none [] gm [] go [] L) h:=by
  have:=Own.gG [(none,.cells (flatC (([]:List Rw).map eA)) false),(none,.cells (flatC (([]:List Nat).map i64)) false),(some go,.map (bN az i64 ([]:List (Flt×Nat)))),(some gp,.cells [.pointer (some ⟨gt,0,none⟩),.slice none 0 0,.slice none 0 0,.map (some gm)] false),
   (some gm,.map (bN i64 i64 ([]:List (Nat×Nat)))),(some gt,.cells [ag 1 ga (fs.map i64),.slice (some ⟨gb,0,none⟩) np np] false),(ga,.cells (flatC (fs.map i64)) false),(some gb,.cells (flatC (ps.map i64)) false)] O [5,6,7,3,0,1,4,2] (by decide)
  simpa[iP,uS,ag] using this
 refine jn (σ:=((List Nat)×(List Nat)×(List (Nat×Nat)))×(Option Nat×Option Nat×Option Nat×List Rw×List (Flt×Nat))) hm 153 [5] (fun ((ps,os,cs),(ga,ao,af,X,ot))=>(ps,X.map Rw.val,os,cs)) (fun ((ps,os,cs),(ga,ao,af,X,ot)) h=>(ga=none->fs=[])/\(ao=none->X=[])/\(af=none->os=[])/\(∀ x∈X,∃ a r,x=.own a r/\(a=none↔r=[]))/\Own vars h0 (iP gt ga gb np fs ps gp ao X af os gm cs go ot L) h) (fun _=>[]) (fun hm=>?_) ?_
 ·refine gX ?_
  refine lw 153 [5,6,7,25,26] (σ:=((List Nat)×(List Nat)×(List (Nat×Nat))×(List (Flt×Nat))×Nat)×(Option Nat×Option Nat×Option Nat×List Rw)) (fun ((ps,os,cs,ot,i),(ga,ao,af,X))=>(ps,X.map Rw.val,os,cs,ot,i)) (fun ((ps,os,cs,ot,i),(ga,ao,af,X)) h=>(ga=none->fs=[])/\(ao=none->X=[])/\(af=none->os=[])/\(∀ x∈X,∃ a r,x=.own a r/\(a=none↔r=[]))/\Own vars h0 (iP gt ga gb np fs ps gp ao X af os gm cs go ot L) h) (fun ((ps,os,cs,ot,i),(ga,ao,af,X))=>[(27,i64 i)]) ((ps,[],[],[],0),(ga,none,none,[])) hm ⟨hga,fun _=>rfl,fun _=>rfl,fun x hx=>by (cases hx),O⟩ ?_
  clear hm O hga;rintro⟨⟨ps,os,cs,ot,i⟩,⟨ga,ao,af,X⟩⟩ nx base h hm ⟨hga,hao,haf,hX,O⟩
  refine gX ?_
  refine br hm (fun hm=>?_) fun hm=>?_
  ·refine gX ?_
   refine atF hm fun f hf hm=>?_;refine gH ?_
   refine O.new (ak (l:=[(n8 0),(i64 0),(z64 0),(n8 0),(i64 0)]) rfl rfl rfl) fun g9 h O=>?_;refine gH ?_
   refine O.stC 5 (.head _) [(n8 f.model),(i64 f.line.node),(z64 f.line.pin),(n8 f.value),(i64 f.other)] fun h O=>?_;refine gH ?_
   have O:=Dm O
   apply Cs;conv=>whnf
   apply Cs;refine gH ?_
   apply Cs;conv=>whnf
   apply Cs;refine gH ?_
   refine jn (σ:=((List Nat)×(List (Nat×Nat))×(List (Flt×Nat))×Nat×Bool)×(Option Nat)) hm 153 [5,6,7,8,25,26,27] (fun s=>s.1) (fun ((ps,cs,ot,at_,is),ga) h=>(ga=none->fs=[])/\Own vars h0 (iP gt ga gb np fs ps gp ao X af os gm cs go ot L) h) (fun ((ps,cs,ot,at_,is),ga)=>[(10,i64 at_),(11,.bool is)]) (fun hm=>?_) ?_
   ·refine gX ?_
    refine ldO (O.at (.tail _ (.tail _ (.tail _ (.tail _ (.tail _ (.tail _ (.tail _ (.tail _ (.head _)))))))))) ?_;refine gX ?_
    refine br hm (fun hm=>?_) fun hm=>?_
    ·refine gX ?_
     refine ldO (O.at (.tail _ (.tail _ (.tail _ (.head _))))) ?_;refine gH ?_
     refine⟨.inr (.inr (ae rfl (O.at (.tail _ (.tail _ (.tail _ (.head _))))) rfl rfl)),?_⟩;refine gH ?_
     refine ldO (O.at (.tail _ (.tail _ (.tail _ (.tail _ (.tail _ (.tail _ (.tail _ (.tail _ (.head _)))))))))) ?_;refine gH ?_
     refine ldO (O.at (.tail _ (.tail _ (.tail _ (.tail _ (.tail _ (.tail _ (.tail _ (.tail _ (.head _)))))))))) ?_;refine gH ?_
     refine ldO (O.at (.tail _ (.tail _ (.tail _ (.tail _ (.tail _ (.tail _ (.tail _ (.tail _ (.head _)))))))))) ?_;refine gH ?_
     obtain⟨_,_,hcall,x,_,hm,rfl,_,_,rfl⟩:=cJ hm hga O
     refine⟨_,_,hcall,?_⟩;refine gH ?_
     refine⟨.inl (Ext.refl _),?_⟩;refine gH ?_
     obtain⟨_,h,hcall,ps,rt,hm,rfl,hga,O,_⟩:=dz hm hga O
     refine⟨_,_,hcall,?_⟩;refine gH ?_
     refine⟨.inr (by kernel_rfl),?_⟩;refine gX ?_
     have O:Own vars h0 (iP gt ga gb np fs ps gp ao X af os gm cs go ot ((some g9,.cells [(n8 f.model),(i64 f.line.node),(z64 f.line.pin),(n8 f.value),(i64 f.other)] false)::L)) h:=O
     refine ldO (O.at (.tail _ (.tail _ (.tail _ (.head _))))) ?_;refine gH ?_
     refine⟨_,mN (ek:=i64) (ev:=i64) (m:=cs) (k:=rt) (z:=0) rfl rfl rfl rfl rfl re (O.at (.tail _ (.tail _ (.tail _ (.tail _ (.tail _ (.tail _ (.head _)))))))) rfl rfl,?_⟩;refine gX ?_
     refine br hm (fun hm=>?_) fun hm=>?_
     ·refine gX ?_
      refine ldO (O.at (.tail _ (.tail _ (.tail _ (.head _))))) ?_;refine gH ?_
      refine⟨.inr (.inr (ae rfl (O.at (.tail _ (.tail _ (.tail _ (.head _))))) rfl rfl)),?_⟩;refine gH ?_
      refine ldO (O.at (.tail _ (.tail _ (.tail _ (.head _))))) ?_;refine gH ?_
      refine⟨.inr (.inr (ae rfl (O.at (.tail _ (.tail _ (.tail _ (.head _))))) rfl rfl)),?_⟩;refine gH ?_
      refine O.yo (ek:=i64) (ev:=i64) (m:=cs) (k:=rt) (v:=X.length) (.tail _ (.tail _ (.tail _ (.tail _ (.tail _ (.tail _ (.head _))))))) rfl rfl rfl re rfl rfl rfl fun h O=>?_;refine gH ?_
      have O:=oB (O:Own vars h0 (iP gt ga gb np fs ps gp ao X af os gm (jt cs rt X.length) go ot ((some g9,.cells [(n8 f.model),(i64 f.line.node),(z64 f.line.pin),(n8 f.value),(i64 f.other)] false)::L)) h)
      rw[<- (List.length_map Rw.val:(X.map Rw.val).length=X.length)] at O
      exact jx ((ps,jt cs rt (X.map Rw.val).length,ot,(cq cs rt).getD 0,(cq cs rt).isSome),ga) hm ⟨hga,O⟩
     ·refine gX ?_
      exact jx ((ps,cs,ot,(cq cs rt).getD 0,(cq cs rt).isSome),ga) hm ⟨hga,oB O⟩
    ·refine gX ?_
     refine ldA (O.at (.tail _ (.tail _ (.tail _ (.tail _ (.tail _ (.tail _ (.tail _ (.tail _ (.head _)))))))))) ?_;refine gH ?_
     refine⟨_,mN (ek:=az) (ev:=i64) (m:=ot) (k:=f) (z:=0) rfl rfl rfl (by kernel_rfl) (by kernel_rfl) (zr rfl) (O.at (.tail _ (.tail _ (.tail _ (.tail _ (.tail _ (.tail _ (.tail _ (.head _))))))))) rfl rfl,?_⟩;refine gX ?_
     refine br hm (fun hm=>?_) fun hm=>?_
     ·refine gX ?_
      refine ldA (O.at (.tail _ (.tail _ (.tail _ (.tail _ (.tail _ (.tail _ (.tail _ (.tail _ (.head _)))))))))) ?_;refine gH ?_
      refine⟨.inr (.inr (bd rfl (O.at (.tail _ (.tail _ (.tail _ (.tail _ (.tail _ (.tail _ (.tail _ (.tail _ (.head _)))))))))) rfl rfl (lbE rfl) rfl)),?_⟩;refine gH ?_
      refine ldO (O.at (.tail _ (.tail _ (.tail _ (.head _))))) ?_;refine gH ?_
      refine⟨.inr (.inr (ae rfl (O.at (.tail _ (.tail _ (.tail _ (.head _))))) rfl rfl)),?_⟩;refine gH ?_
      refine O.yo (ek:=az) (ev:=i64) (m:=ot) (k:=f) (v:=X.length) (.tail _ (.tail _ (.tail _ (.tail _ (.tail _ (.tail _ (.tail _ (.head _)))))))) rfl rfl (by kernel_rfl) (zr rfl) rfl rfl rfl fun h O=>?_;refine gH ?_
      have O:=oB (O:Own vars h0 (iP gt ga gb np fs ps gp ao X af os gm cs go (jt ot f X.length) ((some g9,.cells [(n8 f.model),(i64 f.line.node),(z64 f.line.pin),(n8 f.value),(i64 f.other)] false)::L)) h)
      rw[<- (List.length_map Rw.val:(X.map Rw.val).length=X.length)] at O
      exact jx ((ps,cs,jt ot f (X.map Rw.val).length,(cq ot f).getD 0,(cq ot f).isSome),ga) hm ⟨hga,O⟩
     ·refine gX ?_
      exact jx ((ps,cs,ot,(cq ot f).getD 0,(cq ot f).isSome),ga) hm ⟨hga,oB O⟩
   ·clear hm hga O;rintro⟨⟨ps,cs,ot,at_,is⟩,ga⟩ base h hm ⟨hga,O⟩
    conv=>whnf
    refine jn (σ:=Nat×(Option Nat×List Rw)) hm 153 [5,6,7,8,25,26,27] (fun (at_,(ao,X))=>(X.map Rw.val,at_)) (fun (at_,(ao,X)) h=>(ao=none->X=[])/\(∀ x∈X,∃ a r,x=.own a r/\(a=none↔r=[]))/\Own vars h0 (iP gt ga gb np fs ps gp ao X af os gm cs go ot L) h) (fun (at_,(ao,X))=>[(10,i64 at_)]) (fun hm=>?_) ?_
    ·refine gX ?_
     refine br hm (fun hm=>?_) fun hm=>?_
     ·refine gX ?_
      refine ldO (O.at (.tail _ (.tail _ (.tail _ (.head _))))) ?_;refine gX ?_
      refine ldO (O.at (.tail _ (.tail _ (.tail _ (.head _))))) ?_;refine gH ?_
      refine fz ?_;refine gH ?_
      obtain⟨hm1,hm⟩:=hm
      rw[List.length_map] at hm1 hm
      refine O.apL (b:=24) (W:=True) (enc:=eA) (l:=X) (new:=[Rw.own none []]) 1 (.tail _ (.tail _ (.tail _ (.tail _ (.head _))))) hao ⟨hm1,trivial⟩ (fun ao' h hao' O _=>?_) (hsz:=fun x=>by rw[jW];rfl) (hone:=fun x=>by cases x <;> rfl);refine gH ?_
      refine O.stC 1 (.tail _ (.tail _ (.tail _ (.head _)))) [.pointer (some ⟨gt,0,none⟩),ag 1 ao' ((X++[Rw.own none []]).map eA),ag 1 af (os.map i64),.map (some gm)] fun h O=>?_;refine gH ?_
      have O:=Own.newRow (S:=(iP gt ga gb np fs ps gp ao' (X++[Rw.own none []]) af os gm cs go ot L).take 8++L) (X:=X) O
      have e:(X++[Rw.own none []]).map Rw.val=X.map Rw.val++[[]]:=by simp[Rw.val]
      refine jx (X.length,(ao',X++[Rw.own none []])) (by dsimp only;rw[e];exact hm) ⟨hao',fun x hx=>?_,O⟩
      rcases List.mem_append.1 hx with hx|hx
      ·exact hX x hx
      ·rw[List.mem_singleton] at hx
       exact⟨none,[],hx,by simp⟩
     ·refine gX ?_
      exact jx (at_,(ao,X)) hm ⟨hao,hX,O⟩
    ·clear hm hao hX O;rintro⟨at_,⟨ao,X⟩⟩ base h hm ⟨hao,hX,O⟩
     obtain⟨rw_,hrw,hm1,hm2,hm3,hm⟩:=hm
     obtain⟨x,hx,hxv⟩:∃ x,X[at_]?=some x/\x.val=rw_:=by
      rw[List.getElem?_map] at hrw
      cases hq:X[at_]? with
      |none=>rw[hq] at hrw;cases hrw
      |some x=>rw[hq] at hrw;exact⟨x,rfl,Option.some.inj hrw⟩
     obtain⟨a,r,rfl,har⟩:=hX x (List.mem_of_getElem? hx)
     obtain rfl:r=rw_:=hxv
     obtain⟨g0,rfl⟩:∃ g0,ao=some g0:=by
      cases ao with
      |none=>have:=hao rfl;subst this;cases hx
      |some g=>exact⟨g,rfl⟩
     have O:=Own.zO (S:=(iP gt ga gb np fs ps gp (some g0) X af os gm cs go ot L).take 8++L) O hx
     have hlt:at_<(X.map eA).length:=by rw[List.length_map];exact aj hx
     conv=>whnf
     apply Cs;conv=>whnf
     refine CodeS.oA ?_;refine gH ?_
     refine ldO (O.at (.tail _ (.tail _ (.tail _ (.tail _ (.head _)))))) ?_;refine gH ?_
     refine⟨.inr (.inr (ae rfl (O.at (.tail _ (.tail _ (.tail _ (.tail _ (.head _)))))) rfl rfl)),?_⟩;refine gH ?_
     refine ldO (O.at (.tail _ (.tail _ (.tail _ (.tail _ (.head _)))))) ?_;refine gH ?_
     refine⟨.inr (.inr (ae rfl (O.at (.tail _ (.tail _ (.tail _ (.tail _ (.head _)))))) rfl rfl)),?_⟩;refine gH ?_
     refine ix (W:=fun _=>True) (l:=X) (j:=at_) 1 ⟨hlt,_,hx,trivial⟩ fun x' hx' _=>?_;refine gH ?_
     refine ldE (enc:=eA) (l:=X) (s:=1) (i:=0) (O.at (.tail _ (.tail _ (.tail _ (.tail _ (.tail _ (.head _))))))) hx ?_ (v:=ag 1 a (r.map i64)) (hs:=fun x=>by rw[jW];rfl);refine gH ?_
     refine⟨.inr (.inl (by kernel_rfl)),?_⟩;refine gH ?_
     refine O.bT (l:=([i]:(List Nat))) (enc:=i64) (s:=1) (z:=(i64 0)) rfl rfl (by kernel_rfl) (by kernel_rfl) rfl rfl rfl rfl (fun _=>rfl) fun g64 h O=>?_;refine gH ?_
     have Ok:=O
     refine O.ct (enc:=i64) (l:=r) (new:=([i]:(List Nat))) (s:=1) (b:=8) (.tail _ (.head _)) har.1 rfl rfl rfl rfl rfl rfl rfl rfl (YOk.own (O.at (.head _)) rfl (fun _=>rfl) rfl) (fun _=>rfl) (fun _=>rfl) (by decide) hm1 fun a2 h ha2 O=>?_;refine gH ?_
     refine⟨.inr (.inr (uF (i:=3) (by kernel_rfl) rfl rfl (Ok.at (.tail _ (.tail _ (.tail _ (.tail _ (.tail _ (.head _))))))) (O.at (.tail _ (.tail _ (.tail _ (.tail _ (.tail _ (.head _))))))))),?_⟩;refine gH ?_
     clear Ok
     refine ix (W:=fun _=>True) (l:=X) (j:=at_) 1 ⟨hlt,_,hx,trivial⟩ fun x' hx' _=>?_;refine gH ?_
     refine O.stE (enc:=eA) (l:=X) 1 (.tail _ (.tail _ (.tail _ (.tail _ (.tail _ (.tail _ (.head _))))))) hx (Rw.own a2 (r++[i])) (fun h O=>?_) (hz:=fun x=>by rw[jW];rfl);refine gH ?_
     have O:=O.tail
     obtain⟨X2,hX2⟩:∃ X2,X.set at_ (Rw.own a2 (r++[i]))=X2:=⟨_,rfl⟩
     have eg:ag 1 (some g0) (X.map eA)=ag 1 (some g0) (X2.map eA):=yh (by rw[<- hX2];simp)
     have ev:X2.map Rw.val=(X.map Rw.val).set at_ (r++[i]):=by rw[<- hX2,List.map_set];rfl
     have O:=Own.putRow (S:=(iP gt ga gb np fs ps gp (some g0) X2 af os gm cs go ot L).take 8++L) (j:=at_) (x:=.own a r) (X:=X) (by rw[eg,hX2] at O;exact O) hx
     rw[hX2] at O
     have O:Own vars h0 (iP gt ga gb np fs ps gp (some g0) X2 af os gm cs go ot L) h:=O
     refine gX ?_
     refine ldO (O.at (.tail _ (.tail _ (.tail _ (.head _))))) ?_;refine gH ?_
     refine fz ?_;refine gH ?_
     refine O.apL (b:=8) (W:=True) (enc:=i64) (l:=os) (new:=[at_]) 1 (.tail _ (.tail _ (.tail _ (.tail _ (.tail _ (.head _)))))) haf ⟨hm2,trivial⟩ fun af' h haf' O _=>?_;refine gH ?_
     refine O.stC 1 (.tail _ (.tail _ (.tail _ (.head _)))) [.pointer (some ⟨gt,0,none⟩),ag 1 (some g0) (X2.map eA),ag 1 af' ((os++[at_]).map i64),.map (some gm)] fun h O=>?_;refine gX ?_
     refine aL (a:=i) (b:=1) (W:=True) ⟨hm3,trivial⟩ fun _=>?_;refine gH ?_
     refine jx ((ps,os++[at_],cs,ot,i+1),(ga,some g0,af',X2)) (by dsimp only;rw[ev];exact hm) ⟨hga,(fun e=>by cases e),haf',fun y hy=>?_,O⟩
     rw[<- hX2] at hy
     rcases List.mem_or_eq_of_mem_set hy with hy|hy
     ·exact hX y hy
     ·exact⟨a2,r++[i],hy,⟨ha2,fun e=>by simp at e⟩⟩
  ·refine gX ?_
   refine jx ((ps,os,cs),(ga,ao,af,X,ot)) hm ⟨hga,hao,haf,hX,O⟩
 ·clear hm O hga;rintro⟨⟨ps,os,cs⟩,⟨ga,ao,af,X,ot⟩⟩ base h hm ⟨hga,hao,haf,hX,O⟩
  obtain⟨hne,hlen,hm⟩:=hm
  obtain⟨R,hR⟩:∃ R,X.map Rw.val=R:=⟨_,rfl⟩
  simp only[hR] at hne hlen hm
  have hn:X.length=R.length:=by rw[<- hR];simp
  have hao':ao=none->R=[]:=fun e=>by rw[<- hR,hao e];rfl
  conv=>whnf
  refine jn (α:=Unit) (first:=fun k=>k ()) (rest:=fun _=>True) (σ:=Unit) trivial 153 [5] (fun s=>s) (fun _ h=>Own vars h0 (iP gt ga gb np fs ps gp ao (R.map Rw.fz) af os gm cs go ot L) h) (fun _=>[]) (fun _=>?_) ?_
  ·refine gX ?_
   refine ldO (O.at (.tail _ (.tail _ (.tail _ (.head _))))) ?_;refine gH ?_
   apply Cs;conv=>whnf
   apply Cs;conv=>whnf
   refine zy hM (nn:=153) (by kernel_rfl) (σ:=Nat×List Rw) (fun (k,Y) h=>k<=R.length/\Y.map Rw.val=R/\(∀ j x,Y[j]?=some x->j<k->∃ r,x=.fz r)/\(∀ j x,Y[j]?=some x->k<=j->∃ a r,x=.own a r/\(a=none↔r=[]))/\Own vars h0 (iP gt ga gb np fs ps gp ao Y af os gm cs go ot L) h)
    (fun (k,Y)=>[(5,.pointer (some ⟨gp,0,none⟩)),(133,i64 X.length),(134,i64 k)]) (fun (k,Y)=>R.length-k) rfl ⟨(0,X),⟨Nat.zero_le _,hR,fun j x _ h=>by omega,fun j x hx _=>hX x (List.mem_of_getElem? hx),O⟩,rfl,rfl,rfl,trivial⟩ ?_
   clear O;rintro⟨k,Y⟩ base h ⟨hk,hY,hd,hu,O⟩;conv=>whnf
   have hYn:Y.length=R.length:=by rw[<- hY];simp
   refine gX ?_
   refine br (b:=ltN k X.length) ⟨id,id⟩ (fun hlt=>?_) fun hge=>?_
   ·have hlt:k<Y.length:=by rw[eU] at hlt;simp at hlt;omega
    obtain⟨x,hx⟩:∃ x,Y[k]?=some x:=⟨_,List.getElem?_eq_getElem hlt⟩
    obtain⟨a,r,rfl,har⟩:=hu k x hx (Nat.le_refl _)
    have hr:r≠[]:=hne r (by rw[<- hY];exact List.mem_map.2 ⟨_,List.mem_of_getElem? hx,rfl⟩)
    obtain⟨g,rfl⟩:∃ g,a=some g:=by
     cases a with
     |none=>exact absurd (har.1 rfl) hr
     |some g=>exact⟨g,rfl⟩
    obtain⟨g0,rfl⟩:∃ g0,ao=some g0:=by
     cases ao with
     |none=>have:=hao' rfl;rw[this] at hYn;rw[hYn] at hlt;cases hlt
     |some g=>exact⟨g,rfl⟩
    have O:=Own.zO (S:=(iP gt ga gb np fs ps gp (some g0) Y af os gm cs go ot L).take 8++L) O hx
    have hlt2:k<(Y.map eA).length:=by rw[List.length_map];exact hlt
    refine gX ?_
    refine ldO (O.at (.tail _ (.tail _ (.tail _ (.tail _ (.head _)))))) ?_;refine gH ?_
    refine⟨.inr (.inr (ae rfl (O.at (.tail _ (.tail _ (.tail _ (.tail _ (.head _)))))) rfl rfl)),?_⟩;refine gH ?_
    refine ldO (O.at (.tail _ (.tail _ (.tail _ (.tail _ (.head _)))))) ?_;refine gH ?_
    refine⟨.inr (.inr (ae rfl (O.at (.tail _ (.tail _ (.tail _ (.tail _ (.head _)))))) rfl rfl)),?_⟩;refine gH ?_
    refine ix (W:=fun _=>True) (l:=Y) (j:=k) 1 ⟨hlt2,_,hx,trivial⟩ fun x' hx' _=>?_;refine gH ?_
    refine ldE (enc:=eA) (l:=Y) (s:=1) (i:=0) (O.at (.tail _ (.tail _ (.tail _ (.tail _ (.tail _ (.head _))))))) hx ?_ (v:=ag 1 (some g) (r.map i64)) (hs:=fun x=>by rw[jW];rfl);refine gH ?_
    refine⟨.inr (.inl (by kernel_rfl)),?_⟩;refine gH ?_
    refine fg Tryz.func27 ?_;refine gX ?_
    refine ij (s:=1) (enc:=i64) (l:=r) (n:=r.length) (m:=r.length) rfl rfl rfl rfl rfl rfl rfl ?_;refine gX ?_
    refine⟨.inl (Ext.refl _),?_⟩;refine gH ?_
    refine ix (W:=fun _=>True) (l:=Y) (j:=k) 1 ⟨hlt2,_,hx,trivial⟩ fun x' hx' _=>?_;refine gH ?_
    refine O.stE (enc:=eA) (l:=Y) 1 (.tail _ (.tail _ (.tail _ (.tail _ (.tail _ (.head _)))))) hx (Rw.cut (some g) r) (fun h O=>?_) (hz:=fun x=>by rw[jW];rfl);conv=>whnf
    refine⟨.inl (by kernel_rfl),?_⟩;refine gH ?_
    obtain⟨Y2,hY2⟩:∃ Y2,Y.set k (Rw.fz r)=Y2:=⟨_,rfl⟩
    refine CodeS.ghost O (.head _) (.tail _ (.tail _ (.tail _ (.tail _ (.tail _ (.head _)))))) (t1:=149) (t2:=145) rfl rfl rfl rfl (cs2':=flatC (Y2.map eA)) (fun h2 hg=>?_) fun h O=>?_
    ·rw[BJ,BJ,<- hY2,List.map_set,List.map_set]
     exact LLe.set (VLe.CZ hg)
    have eg:ag 1 (some g0) (Y.map eA)=ag 1 (some g0) (Y2.map eA):=yh (by rw[<- hY2];simp)
    have O:Own vars h0 (iP gt ga gb np fs ps gp (some g0) Y2 af os gm cs go ot L) h:=by
     have O:=O.tail
     rw[eg,hY2] at O
     exact O
    refine gX ?_
    refine aL (a:=k) (b:=1) (W:=True) ⟨by omega,trivial⟩ fun _=>?_;refine gH ?_
    refine⟨(k+1,Y2),(show R.length-(k+1)<R.length-k by omega),⟨(show k+1<=R.length by omega),?_,?_,?_,O⟩,rfl,rfl,rfl,trivial⟩
    ·rw[<- hY2,List.map_set,hY]
     exact ia (by rw[<- hY,List.getElem?_map,hx];rfl)
    ·intro j x hj hjk
     rw[<- hY2] at hj
     by_cases c:k=j
     ·subst c
      rw[List.getElem?_set_self hlt] at hj
      cases hj
      exact⟨r,rfl⟩
     ·rw[List.getElem?_set_ne c] at hj
      exact hd j x hj (by omega)
    ·intro j x hj hjk
     rw[<- hY2,List.getElem?_set,if_neg (by omega)] at hj
     exact hu j x hj (by omega)
   ·have hge:k=R.length:=by rw[eU] at hge;simp at hge;omega
    have e:Y=R.map Rw.fz:=by
     apply List.ext_getElem?
     intro j
     rw[List.getElem?_map]
     cases hj:Y[j]? with
     |none=>rw[List.getElem?_eq_none (by have:=List.getElem?_eq_none_iff.1 hj;omega)];rfl
     |some x =>
      have h1:j<Y.length:=aj hj
      obtain⟨r,rfl⟩:=hd j x hj (by omega)
      have:R[j]?=some r:=by rw[<- hY,List.getElem?_map,hj];rfl
      rw[this];rfl
    rw[e] at O
    refine gX ?_
    exact jx () trivial O
  ·rintro⟨⟩ base h _ O
   refine gX ?_
   have em:(R.map Rw.fz).map eA=R.map (aR 1 i64):=by rw[List.map_map];rfl
   have O:=Own.gG (L:=L++(R.map Rw.fz).map gz) ((iP gt ga gb np fs ps gp ao (R.map Rw.fz) af os gm cs go ot L).take 8) O [3,0,1,2,4,5,6] (by decide)
   rw[<- List.append_assoc] at O
   have O:=Own.fst O
   refine⟨fs,ps,np,R,os,cs,gp,gt,ga,gb,ao,af,gm,hm,rfl,hga,hao',haf,?_⟩
   rw[<- em]
   exact⟨O,trivial⟩
end Go.Proofs.YtobphhjcadjfjaaGreatDoor
