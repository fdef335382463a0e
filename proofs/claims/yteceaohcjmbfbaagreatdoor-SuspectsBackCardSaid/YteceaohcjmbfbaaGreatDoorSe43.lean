/-
  P3, P4, P5, F1, M1, Circ2, Circ3, Circ4, Man2, P6: parts of the proof.
-/
import Derived.Test.YteceaohcjmbfbaaGreatDoorSe42
namespace Go.Proofs.YteceaohcjmbfbaaGreatDoor
open Go.Abs
set_option maxRecDepth 100000
def kd (c:Circ) (i:Nat):Nat:=(c.nodes.map Node.kind).getD i 0
def insOf (c:Circ) (i:Nat):List Nat:=(c.nodes.map Node.ins).getD i []
theorem gL {c:Circ}{i:Nat}{x:Node} (h:c.nodes[i]?=some x):kd c i=x.kind:=by unfold kd;rw[List.getD,List.getElem?_map,h];rfl
theorem tF {c:Circ}{i:Nat}{x:Node} (h:c.nodes[i]?=some x):insOf c i=x.ins:=by unfold insOf;rw[List.getD,List.getElem?_map,h];rfl
def isComb (k:Nat):Prop:=1<=k/\k<=13
instance (k:Nat):Decidable (isComb k):=by unfold isComb;exact inferInstance
theorem mA (x:Nat):∀ (l:List Nat) (s:Nat),((l.zipIdx s).filter fun p=>p.1==x).length=l.count x
 |[],_=>rfl
 |a::l,s=>by
  rw[List.zipIdx_cons,List.filter_cons,List.count_cons]
  by_cases c:a=x
  ·simp[c,mA x l (s+1)]
  ·simp[c,mA x l (s+1)]
theorem rO (x idx i:Nat) (ins:List Nat):(bC x idx ins).countP (fun l=>l.node==i)=if idx=i then ins.count x else 0:=by
 unfold bC
 rw[List.countP_map]
 by_cases c:idx=i
 ·rw[if_pos c,<- mA x ins 0]
  subst c
  rw[List.countP_eq_length.2 (by intro p _;simp)]
 ·rw[if_neg c]
  rw[List.countP_eq_zero]
  intro p _
  simpa using c
def fanOf (c:Circ) (x:Nat):List Ln:=c.nodes.zipIdx.flatMap fun p=>bC x p.2 p.1.ins
theorem nH (x i:Nat):∀ (ns:List Node) (s:Nat),((ns.zipIdx s).flatMap fun p=>bC x p.2 p.1.ins).countP (fun l=>l.node==i)=if s<=i then ((ns.map Node.ins).getD (i-s) []).count x else 0
 |[],s=>by simp
 |a::ns,s=>by
  rw[List.zipIdx_cons,List.flatMap_cons,List.countP_append,rO,nH x i ns (s+1)]
  by_cases c:s=i
  ·subst c
   rw[if_pos rfl,if_neg (by omega),if_pos (Nat.le_refl _),Nat.sub_self]
   rfl
  ·rw[if_neg c]
   by_cases q:s<=i
   ·rw[if_pos (by omega:s+1<=i),if_pos q]
    have:i-s=(i-(s+1))+1:=by omega
    rw[this,Nat.zero_add]
    rfl
   ·rw[if_neg (by omega:¬ s+1<=i),if_neg q]
theorem su (c:Circ) (x i:Nat):(fanOf c x).countP (fun l=>l.node==i)=(insOf c i).count x:=by
 have:=nH x i c.nodes 0
 rw[if_pos (Nat.zero_le _),Nat.sub_zero] at this
 exact this
theorem wH {c:Circ}{x:Nat}{l:Ln} (h:l∈fanOf c x):l.node<c.nodes.length:=by
 unfold fanOf at h
 rw[List.mem_flatMap] at h
 obtain⟨p,h1,h2⟩:=h
 unfold bC at h2
 obtain⟨q,_,rfl⟩:=List.mem_map.1 h2
 have:=List.mem_zipIdx h1
 simp only
 omega
theorem uF {c:Circ}{x:Nat} (h:x<c.nodes.length):(nj c)[x]?=some (fanOf c x):=by
 unfold nj
 rw[List.getElem?_map,List.getElem?_range h]
 rfl
structure LevOk (c:Circ) (lev:List Nat):Prop where
 len:lev.length=c.nodes.length
 up:∀ i x,c.nodes[i]?=some x->isComb x.kind->∀ k∈x.ins,lev.getD k 0<lev.getD i 0
theorem cd {l:List Nat}{i j v:Nat} (h:i<l.length):(l.set i v).getD j 0=if i=j then v else l.getD j 0:=by
 rw[List.getD,List.getD,List.getElem?_set]
 by_cases c:i=j
 ·subst c;simp[h]
 ·simp[c]
structure Kahn (c:Circ) (lev left R:List Nat) (d:Nat):Prop where
 levLen:lev.length=c.nodes.length
 leftLen:left.length=c.nodes.length
 dle:d<=R.length
 nodup:R.Nodup
 lt:∀ r∈R,r<c.nodes.length
 cnt:∀ i,i<c.nodes.length->left.getD i 0=if isComb (kd c i) then (insOf c i).countP (fun k=>decide (k ∉ R.take d)) else 0
 rdy:∀ i,i<c.nodes.length->(i∈R↔left.getD i 0=0)
 up:∀ i,i<c.nodes.length->isComb (kd c i)->∀ k∈insOf c i,k∈R.take d->lev.getD k 0<lev.getD i 0
 bnd:∀ i,lev.getD i 0<=d
structure KahnIn (c:Circ) (lev0 R0:List Nat) (d x:Nat) (lev left R:List Nat) (t:Nat):Prop where
 levLen:lev.length=c.nodes.length
 leftLen:left.length=c.nodes.length
 pre:∃ r,R=R0++r
 nodup:R.Nodup
 lt:∀ r∈R,r<c.nodes.length
 cnt:∀ i,i<c.nodes.length->left.getD i 0=if isComb (kd c i) then (insOf c i).countP (fun k=>decide (k ∉ R0.take d/\k≠x))+((fanOf c x).drop t).countP (fun l=>l.node==i) else 0
 rdy:∀ i,i<c.nodes.length->(i∈R↔left.getD i 0=0)
 up:∀ i,i<c.nodes.length->isComb (kd c i)->∀ k∈insOf c i,k∈R0.take d->lev.getD k 0<lev.getD i 0
 upx:∀ l∈(fanOf c x).take t,isComb (kd c l.node)->lev.getD x 0<lev.getD l.node 0
 bnd:∀ i,lev.getD i 0<=d+1
 bndx:lev.getD x 0<=d
theorem tV (l:List Nat) (p:Nat->Prop) [DecidablePred p] (x:Nat) (hx:¬ p x):l.countP (fun k=>decide (¬ p k))=l.countP (fun k=>decide (¬ p k/\k≠x))+l.count x:=by
 induction l with
 |nil=>rfl
 |cons a l ih =>
  rw[List.countP_cons,List.countP_cons,List.count_cons,ih]
  by_cases c:a=x
  ·subst c
   simp[hx]
   omega
  ·by_cases q:p a
   ·simp[q,c]
   ·simp[q,c]
    omega
theorem Kahn.enter {c:Circ}{lev left R:List Nat}{d x:Nat} (K:Kahn c lev left R d) (hx:R[d]?=some x):KahnIn c lev R d x lev left R 0:=by
 have hxn:x ∉ R.take d:=by
  intro m
  obtain⟨h1,rfl⟩:=List.getElem?_eq_some_iff.1 hx
  obtain⟨j,hj,e⟩:=List.getElem_of_mem m
  rw[List.length_take] at hj
  rw[List.getElem_take] at e
  exact List.pairwise_iff_getElem.1 K.nodup j d (by omega) h1 (by omega) e
 refine⟨K.levLen,K.leftLen,⟨[],by simp⟩,K.nodup,K.lt,fun i hi=>?_,K.rdy,K.up,(fun l m=>by simp at m),fun i=>Nat.le_succ_of_le (K.bnd i),K.bnd x⟩
 rw[K.cnt i hi,List.drop_zero,su]
 by_cases q:isComb (kd c i)
 ·rw[if_pos q,if_pos q]
  exact tV _ (fun k=>k∈R.take d) x (fun h=>hxn h)
 ·rw[if_neg q,if_neg q]
theorem dz {l:List Nat}{d x:Nat} (hx:l[d]?=some x):l.take (d+1)=l.take d++[x]:=by
 obtain⟨h1,rfl⟩:=List.getElem?_eq_some_iff.1 hx
 exact List.take_succ_eq_append_getElem h1
theorem KahnIn.leave {c:Circ}{lev0 R0 lev left R:List Nat}{d x t:Nat} (hx:R0[d]?=some x) (K:KahnIn c lev0 R0 d x lev left R t) (ht:(fanOf c x).length<=t):Kahn c lev left R (d+1):=by
 have hd:d<R0.length:=(List.getElem?_eq_some_iff.1 hx).1
 obtain⟨r,hr⟩:=K.pre
 have htk:R.take (d+1)=R0.take d++[x]:=by
  rw[hr,List.take_append_of_le_length (by omega),dz hx]
 refine⟨K.levLen,K.leftLen,by rw[hr,List.length_append];omega,K.nodup,K.lt,fun i hi=>?_,K.rdy,fun i hi q k hk m=>?_,K.bnd⟩
 ·rw[K.cnt i hi,List.drop_eq_nil_of_le ht]
  by_cases q:isComb (kd c i)
  ·rw[if_pos q,if_pos q]
   simp only[List.countP_nil,Nat.add_zero,htk]
   congr 1
   funext k
   simp
  ·rw[if_neg q,if_neg q]
 ·rw[htk,List.mem_append,List.mem_singleton] at m
  rcases m with m|rfl
  ·exact K.up i hi q k hk m
  ·have:0<(fanOf c k).countP (fun l=>l.node==i):=by
    rw[su]
    exact List.count_pos_iff.2 hk
   obtain⟨l,m,e⟩:=List.countP_pos_iff.1 this
   have e:l.node=i:=by simpa using e
   have:=K.upx l (by rw[List.take_of_length_le ht];exact m) (by rw[e];exact q)
   rw[e] at this
   exact this
theorem KahnIn.skip {c:Circ}{lev0 R0 lev left R:List Nat}{d x t:Nat}{l:Ln} (K:KahnIn c lev0 R0 d x lev left R t) (hl:(fanOf c x)[t]?=some l) (hc:¬ isComb (kd c l.node)):KahnIn c lev0 R0 d x lev left R (t+1):=by
 have hd:=jF hl
 obtain⟨h1,hl2⟩:=List.getElem?_eq_some_iff.1 hl
 refine⟨K.levLen,K.leftLen,K.pre,K.nodup,K.lt,fun i hi=>?_,K.rdy,K.up,fun l' m q=>?_,K.bnd,K.bndx⟩
 ·rw[K.cnt i hi]
  by_cases q:isComb (kd c i)
  ·rw[if_pos q,if_pos q,hd,List.countP_cons]
   have:(l.node==i)=false:=by
    rw[beq_eq_false_iff_ne]
    intro e;rw[e] at hc;exact hc q
   simp[this]
  ·rw[if_neg q,if_neg q]
 ·rw[List.take_succ_eq_append_getElem h1,hl2,List.mem_append,List.mem_singleton] at m
  rcases m with m|rfl
  ·exact K.upx l' m q
  ·exact absurd q hc
theorem KahnIn.pos {c:Circ}{lev0 R0 lev left R:List Nat}{d x t:Nat}{l:Ln} (K:KahnIn c lev0 R0 d x lev left R t) (hl:(fanOf c x)[t]?=some l) (hc:isComb (kd c l.node)):1<=left.getD l.node 0:=by
 rw[K.cnt _ (wH (List.mem_of_getElem? hl)),if_pos hc,jF hl,List.countP_cons]
 simp
 omega
theorem KahnIn.step {c:Circ}{lev0 R0 lev left R:List Nat}{d x t:Nat}{l:Ln} (K:KahnIn c lev0 R0 d x lev left R t) (hl:(fanOf c x)[t]?=some l) (hc:isComb (kd c l.node)) (hx:R0[d]?=some x) {R':List Nat}
  (hR:(left.getD l.node 0-1=0/\R'=R++[l.node])\/(left.getD l.node 0-1≠0/\R'=R)) :
  KahnIn c lev0 R0 d x (lev.set l.node (max (lev.getD l.node 0) (lev.getD x 0+1))) (left.set l.node (left.getD l.node 0-1)) R' (t+1):=by
 have hd:=jF hl
 obtain⟨h1,hl2⟩:=List.getElem?_eq_some_iff.1 hl
 have hj:=wH (List.mem_of_getElem? hl)
 have hpos:=K.pos hl hc
 have hjR:l.node ∉ R:=fun m=>by
  have:=(K.rdy _ hj).1 m
  omega
 obtain⟨r,hr⟩:=K.pre
 have hxR:x∈R:=by rw[hr];exact List.mem_append_left _ (List.mem_of_getElem? hx)
 have hxne:l.node≠x:=fun e=>hjR (by rw[e];exact hxR)
 have hlev:∀ i,lev.getD i 0<=(lev.set l.node (max (lev.getD l.node 0) (lev.getD x 0+1))).getD i 0:=fun i=>by
  rw[cd (by rw[K.levLen];exact hj)]
  split
  ·rename_i e;subst e;exact Nat.le_max_left _ _
  ·exact Nat.le_refl _
 have hsame:∀ k,k∈R->(lev.set l.node (max (lev.getD l.node 0) (lev.getD x 0+1))).getD k 0=lev.getD k 0:=fun k m=>by
  rw[cd (by rw[K.levLen];exact hj),if_neg (fun e=>hjR (by rw[e];exact m))]
 refine⟨by rw[List.length_set];exact K.levLen,by rw[List.length_set];exact K.leftLen,?_,?_,?_,fun i hi=>?_,fun i hi=>?_,fun i hi q k hk m=>?_,fun l' m q=>?_,fun i=>?_,by rw[hsame x hxR];exact K.bndx⟩
 ·rcases hR with⟨_,rfl⟩|⟨_,rfl⟩
  ·exact⟨r++[l.node],by rw[hr,List.append_assoc]⟩
  ·exact⟨r,hr⟩
 ·rcases hR with⟨_,rfl⟩|⟨_,rfl⟩
  ·rw[List.nodup_append]
   exact⟨K.nodup,by simp,fun a ha b hb=>by rw[List.mem_singleton] at hb;subst hb;exact fun e=>hjR (e ▸ ha)⟩
  ·exact K.nodup
 ·rcases hR with⟨_,rfl⟩|⟨_,rfl⟩
  ·intro a m
   rcases List.mem_append.1 m with m|m
   ·exact K.lt a m
   ·rw[List.mem_singleton] at m;subst m;exact hj
  ·exact K.lt
 ·rw[cd (by rw[K.leftLen];exact hj)]
  have hK:=K.cnt i hi
  rw[hd,List.countP_cons] at hK
  by_cases e:l.node=i
  ·subst e
   rw[if_pos rfl,if_pos hc]
   rw[if_pos hc] at hK
   have hb:(l.node==l.node)=true:=by simp
   rw[if_pos hb] at hK
   omega
  ·rw[if_neg e,hK]
   have:(l.node==i)=false:=beq_eq_false_iff_ne.2 e
   simp[this]
 ·rw[cd (by rw[K.leftLen];exact hj)]
  by_cases e:l.node=i
  ·subst e
   rw[if_pos rfl]
   rcases hR with⟨h0,rfl⟩|⟨h0,rfl⟩
   ·exact⟨fun _=>h0,fun _=>by simp⟩
   ·exact⟨fun m=>absurd m hjR,fun q=>absurd q h0⟩
  ·rw[if_neg e,<- K.rdy i hi]
   rcases hR with⟨_,rfl⟩|⟨_,rfl⟩
   ·rw[List.mem_append,List.mem_singleton]
    exact⟨fun m=>m.resolve_right (fun q=>e q.symm),.inl⟩
   ·exact Iff.rfl
 ·have hkR:k∈R:=by rw[hr];exact List.mem_append_left _ (List.mem_of_mem_take m)
  rw[hsame k hkR]
  exact Nat.lt_of_lt_of_le (K.up i hi q k hk m) (hlev i)
 ·rw[List.take_succ_eq_append_getElem h1,hl2,List.mem_append,List.mem_singleton] at m
  rw[hsame x hxR]
  rcases m with m|rfl
  ·exact Nat.lt_of_lt_of_le (K.upx l' m q) (hlev _)
  ·rw[cd (by rw[K.levLen];exact hj),if_pos rfl]
   omega
 ·rw[cd (by rw[K.levLen];exact hj)]
  have:=K.bnd i
  have:=K.bndx
  have:=K.bnd l.node
  split <;> omega
theorem jv:∀ {l m:List Nat},l.Nodup->(∀ x∈l,x∈m)->l.length<=m.length
 |[],_,_,_=>Nat.zero_le _
 |a::l,m,hn,hs=>by
  obtain⟨h1,h2⟩:=List.nodup_cons.1 hn
  have ha:a∈m:=hs a (.head _)
  have:=jv (m:=m.erase a) h2 fun x hx=>(List.mem_erase_of_ne (fun e=>h1 (by rw[<- e];exact hx))).2 (hs x (.tail _ hx))
  rw[List.length_erase_of_mem ha] at this
  have:=List.length_pos_of_mem ha
  rw[List.length_cons]
  omega
theorem Kahn.all {c:Circ} (g:Good c) {lev left R:List Nat}{d:Nat} (K:Kahn c lev left R d) (hd:R.length<=d):d=c.nodes.length/\LevOk c lev:=by
 have hdR:R.take d=R:=List.take_of_length_le hd
 have mem:∀ i,i<c.nodes.length->i∈R:=by
  intro i
  induction i using Nat.strongRecOn with
  |_ i ih =>
   intro hi
   rw[K.rdy i hi,K.cnt i hi]
   by_cases q:isComb (kd c i)
   ·rw[if_pos q,List.countP_eq_zero]
    intro k hk
    obtain⟨x,hx⟩:=au hi
    rw[tF hx] at hk
    rw[gL hx] at q
    have:=(g.node i x hx).acyc q.1 q.2 k hk
    simp[hdR,ih k this (by omega)]
   ·rw[if_neg q]
 have h1:c.nodes.length<=R.length:=by
  have:(List.range c.nodes.length).length<=R.length:=jv List.nodup_range (fun i m=>mem i (List.mem_range.1 m))
  simpa using this
 have h2:R.length<=c.nodes.length:=by
  have:R.length<=(List.range c.nodes.length).length:=jv K.nodup (fun i m=>List.mem_range.2 (K.lt i m))
  simpa using this
 refine⟨by have:=K.dle;omega,K.levLen,fun i x hx q k hk=>?_⟩
 have hi:=ak hx
 refine K.up i hi (by rw[gL hx];exact q) k (by rw[tF hx];exact hk) ?_
 rw[hdR]
 exact mem k ((g.node i x hx).ins k hk)
theorem Kahn.start {c:Circ}{left R:List Nat} (h1:left.length=c.nodes.length) (h2:∀ i,i<c.nodes.length->left.getD i 0=if isComb (kd c i) then (insOf c i).length else 0) (h3:R.Nodup) (h4:∀ i,i∈R↔i<c.nodes.length/\left.getD i 0=0):Kahn c (List.replicate c.nodes.length 0) left R 0:=by
 refine⟨by simp,h1,Nat.zero_le _,h3,fun r m=>((h4 r).1 m).1,fun i hi=>?_,fun i hi=>?_,fun i _ _ k _ m=>by simp at m,fun i=>?_⟩
 ·rw[h2 i hi]
  simp
 ·rw[h4 i]
  exact⟨fun h=>h.2,fun h=>⟨hi,h⟩⟩
 ·rw[List.getD,List.getElem?_replicate]
  split <;> simp
theorem yz {c:Circ}{K:List (List Ln)->Prop} (g:FanOk c) (h:K (nj c)):ff c K:=⟨g,h⟩
theorem CP {b:Bool} (h:(!b)=true):b=false:=by cases b;rfl;cases h
theorem CO {b:Bool} (h:(!b)=false):b=true:=by cases b;cases h;rfl
structure Init (c:Circ) (left R:List Nat) (i:Nat):Prop where
 ile:i<=c.nodes.length
 len:left.length=c.nodes.length
 cnt:∀ j,j<c.nodes.length->left.getD j 0=if j<i/\isComb (kd c j) then (insOf c j).length else 0
 nodup:R.Nodup
 rdy:∀ j,j∈R↔j<i/\left.getD j 0=0
 rlen:R.length<=i
theorem Init.step {c:Circ}{left R:List Nat}{i:Nat}{x:Node} (I:Init c left R i) (hx:c.nodes[i]?=some x) {left' R':List Nat}
  (hl:left'=if isComb x.kind then left.set i x.ins.length else left) (hR:(left'.getD i 0=0/\R'=R++[i])\/(left'.getD i 0≠0/\R'=R)):Init c left' R' (i+1):=by
 have hi:=ak hx
 have hiR:i ∉ R:=fun m=>by have:=((I.rdy i).1 m).1;omega
 have hg:∀ j,left'.getD j 0=if j=i then (if isComb x.kind then x.ins.length else 0) else left.getD j 0:=fun j=>by
  have h0:=I.cnt i hi
  rw[if_neg (by omega)] at h0
  rw[hl]
  by_cases q:isComb x.kind
  ·rw[if_pos q,cd (by rw[I.len];exact hi),if_pos q]
   by_cases e:i=j
   ·rw[if_pos e,if_pos e.symm]
   ·rw[if_neg e,if_neg (fun q=>e q.symm)]
  ·rw[if_neg q,if_neg q]
   by_cases e:j=i
   ·rw[if_pos e,e,h0]
   ·rw[if_neg e]
 have hlen:left'.length=c.nodes.length:=by rw[hl];split <;> simp[I.len]
 have hmem:∀ j,j∈R'↔j∈R\/(j=i/\left'.getD i 0=0):=fun j=>by
  rcases hR with⟨h0,rfl⟩|⟨h0,rfl⟩
  ·rw[List.mem_append,List.mem_singleton]
   exact⟨fun h=>h.imp id fun e=>⟨e,h0⟩,fun h=>h.imp id fun e=>e.1⟩
  ·exact⟨.inl,fun h=>h.resolve_right (fun q=>h0 q.2)⟩
 refine⟨hi,hlen,fun j hj=>?_,?_,fun j=>?_,?_⟩
 ·rw[hg j]
  by_cases e:j=i
  ·subst e
   rw[if_pos rfl,gL hx,tF hx]
   by_cases q:isComb x.kind
   ·rw[if_pos q,if_pos ⟨by omega,q⟩]
   ·rw[if_neg q,if_neg (fun h=>q h.2)]
  ·rw[if_neg e,I.cnt j hj]
   by_cases q:j<i/\isComb (kd c j)
   ·rw[if_pos q,if_pos ⟨by omega,q.2⟩]
   ·rw[if_neg q,if_neg (fun h=>q ⟨by omega,h.2⟩)]
 ·rcases hR with⟨_,rfl⟩|⟨_,rfl⟩
  ·rw[List.nodup_append]
   exact⟨I.nodup,by simp,fun a ha b hb=>by rw[List.mem_singleton] at hb;subst hb;exact fun e=>hiR (by rw[<- e];exact ha)⟩
  ·exact I.nodup
 ·rw[hmem,I.rdy j]
  constructor
  ·rintro (⟨h1,h2⟩|⟨rfl,h2⟩)
   ·refine⟨by omega,?_⟩
    rw[hg j,if_neg (by omega)];exact h2
   ·exact⟨by omega,h2⟩
  ·rintro⟨h1,h2⟩
   by_cases e:j=i
   ·subst e;exact .inr ⟨rfl,h2⟩
   ·rw[hg j,if_neg e] at h2
    exact .inl ⟨by omega,h2⟩
 ·have:=I.rlen
  rcases hR with⟨_,rfl⟩|⟨_,rfl⟩
  ·rw[List.length_append,List.length_singleton];omega
  ·omega
theorem Kahn.rlen {c:Circ}{lev left R:List Nat}{d:Nat} (K:Kahn c lev left R d):R.length<=c.nodes.length:=by
 have:R.length<=(List.range c.nodes.length).length:=jv K.nodup (fun i m=>List.mem_range.2 (K.lt i m))
 simpa using this
theorem KahnIn.rlen {c:Circ}{lev0 R0 lev left R:List Nat}{d x t:Nat} (K:KahnIn c lev0 R0 d x lev left R t):R.length<=c.nodes.length:=by
 have:R.length<=(List.range c.nodes.length).length:=jv K.nodup (fun i m=>List.mem_range.2 (K.lt i m))
 simpa using this
theorem fa {l:List Nat}{n i:Nat} (hl:l.length=n) (hi:i<n):l[i]?=some (l.getD i 0):=getD_some (by omega)
theorem AM {c:Circ} (g:Good c) {x:Nat} (_hx:x<c.nodes.length):(fanOf c x).length<=1000:=by
 have hl:=g.len
 unfold fanOf
 rw[List.length_flatMap]
 have h1:∀ p∈c.nodes.zipIdx,(bC x p.2 p.1.ins).length<=16:=by
  intro p m
  unfold bC
  rw[List.length_map]
  refine Nat.le_trans (List.length_filter_le _ _) ?_
  rw[List.length_zipIdx]
  have hm:=List.mem_zipIdx m
  have h3:p.2<c.nodes.length:=by omega
  have h4:c.nodes[p.2]?=some p.1:=by
   rw[hm.2.2,List.getElem?_eq_getElem h3]
   simp
  exact (g.node _ _ h4).few
 have h2:∀ (l:List (Node×Nat)),(∀ p∈l,(bC x p.2 p.1.ins).length<=16)->(l.map fun p=>(bC x p.2 p.1.ins).length).sum<=l.length*16:=by
  intro l
  induction l with
  |nil=>intro _;simp
  |cons a l ih =>
   intro h
   have:=ih fun p m=>h p (.tail _ m)
   have:=h a (.head _)
   simp only[List.map_cons,List.sum_cons,List.length_cons]
   omega
 have:=h2 _ h1
 rw[List.length_zipIdx] at this
 omega
set_option maxHeartbeats 2000000 in
theorem sE {c:Circ}{K:List Nat×Nat->Prop} (g:Good c) (h:∀ lev,LevOk c lev->K (lev,0)):bU c K:=by
 have hlen:=g.len
 unfold bU
 refine zo g ⟨fun q=>absurd rfl (eL.1 q),fun _=>⟨by omega,by omega,by omega,by omega,?_⟩⟩
 refine ay (fun s=>Init c s.1 s.2.1 s.2.2) (fun s=>c.nodes.length-s.2.2) (fun a=>Init c a.1 a.2 c.nodes.length) ?_ ?_ ?_
 ·rintro k ⟨left,R,i⟩ nx I hnx hk
  dsimp only at I
  have hrl:=I.rlen
  have hile:=I.ile
  refine⟨fun q=>?_,fun q=>?_⟩
  ·have q:=aJ.1 q
   obtain⟨x,hx⟩:=au q
   refine dD ⟨x,hx,dD (tG ?_)⟩
   have main:∀ left',left'=(if isComb x.kind then left.set i x.ins.length else left)->i<c.nodes.length/\∃ x31,left'[i]?=some x31/\(eqN x31 0=true->(R.length+([i]:List Nat).length)*8<=2 ^ 47/\i+1<2 ^ 63/\nx (left',R++[i],i+1))/\(eqN x31 0=false->i+1<2 ^ 63/\nx (left',R,i+1)):=by
    intro left' hl
    have hlen':left'.length=c.nodes.length:=by rw[hl];split <;> simp[I.len]
    refine⟨q,_,fa hlen' q,fun e=>⟨by simp only[List.length_singleton];omega,by omega,hnx (left',R++[i],i+1) (I.step hx hl (.inl ⟨bo.1 e,rfl⟩)) (by dsimp only;omega)⟩,fun e=>⟨by omega,hnx (left',R,i+1) (I.step hx hl (.inr ⟨bM.1 e,rfl⟩)) (by dsimp only;omega)⟩⟩
   refine⟨fun e=>⟨q,_,fa I.len q,main _ ?_⟩,fun e=>main _ ?_⟩
   ·rw[if_pos (show isComb x.kind from of_decide_eq_true e)]
   ·rw[if_neg (show ¬ isComb x.kind from of_decide_eq_false e)]
  ·have q:=aU.1 q
   have:i=c.nodes.length:=by omega
   subst this
   exact hk (left,R) I
 ·refine⟨Nat.zero_le _,by simp,fun j hj=>?_,List.nodup_nil,fun j=>by simp,Nat.zero_le _⟩
  dsimp only
  rw[List.getD,List.getElem?_replicate,if_pos hj,if_neg (by omega)]
  rfl
 ·rintro⟨left0,R0⟩ I
  dsimp only at I ⊢
  refine yz g.fanOk ?_
  have K0:Kahn c (List.replicate c.nodes.length 0) left0 R0 0:=Kahn.start I.len (fun i hi=>by rw[I.cnt i hi];simp only[hi,true_and]) I.nodup I.rdy
  refine ay (fun s=>Kahn c s.1 s.2.1 s.2.2.1 s.2.2.2) (fun s=>c.nodes.length-s.2.2.2) (fun a=>a.2=c.nodes.length/\LevOk c a.1) ?_ K0 ?_
  ·rintro k ⟨lev,left,R,d⟩ nx Kh hnx hk
   dsimp only at Kh
   try dsimp only
   have hrl:=Kh.rlen
   refine⟨fun q=>?_,fun q=>?_⟩
   ·have q:=aJ.1 q
    try dsimp only at q
    obtain⟨x,hx⟩:=au q
    have hxn:=Kh.lt x (List.mem_of_getElem? hx)
    have hfl:=AM g hxn
    refine⟨x,hx,by omega,_,uF hxn,fun e=>?_,fun e=>⟨_,uF hxn,?_⟩⟩
    ·have e:=bo.1 e
     exact hnx _ ((Kh.enter hx).leave hx (by omega)) (by dsimp only;omega)
    ·refine bn (fun s=>KahnIn c lev R d x s.1 s.2.1 s.2.2.1 s.2.2.2) (fun s=>(fanOf c x).length-s.2.2.2) ?_ (Kh.enter hx)
     rintro⟨lev1,left1,R1,t⟩ nx1 K1 hnx1
     dsimp only at K1
     try dsimp only
     have hrl1:=K1.rlen
     refine⟨fun q1=>?_,fun q1=>hnx (lev1,left1,R1,d+1) (K1.leave hx (aU.1 q1)) (by dsimp only;omega)⟩
     have q1:=aJ.1 q1
     try dsimp only at q1
     obtain⟨l,hl⟩:=au q1
     have hj:=wH (List.mem_of_getElem? hl)
     obtain⟨y,hy⟩:=au hj
     have hky:=gL hy
     refine dD ⟨l,hl,y,hy,tG ⟨fun e=>?_,fun e=>?_⟩⟩
     ·have e:¬ isComb (kd c l.node):=by rw[hky];exact of_decide_eq_false (CP e)
      exact⟨by omega,hnx1 (lev1,left1,R1,t+1) (K1.skip hl e) (by dsimp only;omega)⟩
     ·have e:isComb (kd c l.node):=by rw[hky];exact of_decide_eq_true (CO e)
      have hp:=K1.pos hl e
      have hb:=K1.bndx
      have hll:=fa K1.leftLen hj
      have hb2:left1.getD l.node 0<2 ^ 63:=by
       rw[K1.cnt _ hj,if_pos e]
       have h1:=List.countP_le_length (p:=fun k=>decide (k ∉ R.take d/\k≠x)) (l:=insOf c l.node)
       have h2:=List.countP_le_length (p:=fun l':Ln=>l'.node==l.node) (l:=(fanOf c x).drop t)
       have h3:(insOf c l.node).length<=16:=by rw[tF hy];exact (g.node _ _ hy).few
       rw[List.length_drop] at h2
       omega
      refine⟨hj,_,fa K1.levLen hj,hxn,_,fa K1.levLen hxn,by omega,hj,_,fa K1.levLen hj,hj,_,hll,hp,hb2,hj,_,hll,hj,left1.getD l.node 0-1,?_,fun e2=>?_,fun e2=>?_⟩
      ·rw[List.getElem?_set_self (by rw[K1.leftLen];exact hj)]
      ·exact⟨by simp only[List.length_singleton];omega,by omega,hnx1 _ (K1.step hl e hx (.inl ⟨bo.1 e2,rfl⟩)) (by dsimp only;omega)⟩
      ·exact⟨by omega,hnx1 _ (K1.step hl e hx (.inr ⟨bM.1 e2,rfl⟩)) (by dsimp only;omega)⟩
   ·obtain⟨h1,h2⟩:=Kh.all g (aU.1 q)
    exact hk (lev,d) ⟨h1,h2⟩
  ·rintro⟨lev,d⟩ ⟨hd,hl⟩
   dsimp only at hd hl ⊢
   exact⟨fun q=>absurd (aJ.1 q) (by omega),fun _=>⟨hl.len.symm,h lev hl⟩⟩
theorem vt {c:Circ}{K:Nat->Prop} (g:Good c) (h:K 0):cc c K:=by
 unfold cc
 exact sE g fun _ _=>h
theorem wy {a b:Nat}{K:Int->Prop} (h:K (if a<b then Int.negSucc 0 else if b<a then Int.ofNat 1 else Int.ofNat 0)):dS a b K:=by
 unfold dS fJ
 have e1:neN a a=false:=pv.2 rfl
 have e2:neN b b=false:=pv.2 rfl
 rw[e1,e2]
 refine⟨(fun q=>by cases q),fun _=>⟨(fun q=>by cases q),fun _=>⟨fun q=>?_,fun q=>⟨fun q2=>?_,fun q2=>?_⟩⟩⟩⟩
 ·rw[if_pos (aJ.1 q)] at h;exact h
 ·have:=aU.1 q
  rw[if_neg (by omega),if_pos (aJ.1 q2)] at h;exact h
 ·have:=aU.1 q
  have:=aU.1 q2
  rw[if_neg (by omega),if_neg (by omega)] at h;exact h
theorem Ax {a b:Nat}:ltI (if a<b then Int.negSucc 0 else if b<a then Int.ofNat 1 else Int.ofNat 0) (Int.ofNat 0)=decide (a<b):=by
 by_cases c:a<b
 ·rw[if_pos c,decide_eq_true c];rfl
 ·rw[if_neg c,decide_eq_false c]
  by_cases q:b<a
  ·rw[if_pos q];rfl
  ·rw[if_neg q];rfl
structure Ins (lev data l:List Nat) (i j:Nat):Prop where
 perm:l.Perm data
 jle:j<=i
 ord:∀ p q,p<q->q<=i->q≠j->lev.getD (l.getD p 0) 0<=lev.getD (l.getD q 0) 0
theorem uP {l:List Nat}{i j k:Nat} (hi:i<l.length) (hj:j<l.length):((l.set i (l.getD j 0)).set j (l.getD i 0)).getD k 0=if k=j then l.getD i 0 else if k=i then l.getD j 0 else l.getD k 0:=by
 rw[cd (by simpa using hj)]
 by_cases c:j=k
 ·rw[if_pos c,if_pos c.symm]
 ·have c2:¬ k=j:=fun e=>c e.symm
  rw[if_neg c,if_neg c2,cd hi]
  by_cases q:i=k
  ·rw[if_pos q,if_pos q.symm]
  ·have q2:¬ k=i:=fun e=>q e.symm
   rw[if_neg q,if_neg q2]
theorem swap_perm {l:List Nat}{i j:Nat} (hi:i<l.length) (hj:j<l.length):((l.set i (l.getD j 0)).set j (l.getD i 0)).Perm l:=by
 have e1:l.getD j 0=l[j]:=by rw[List.getD,List.getElem?_eq_getElem hj];rfl
 have e2:l.getD i 0=l[i]:=by rw[List.getD,List.getElem?_eq_getElem hi];rfl
 rw[e1,e2]
 exact List.set_set_perm hi hj
theorem Ins.swap {lev data l:List Nat}{i j:Nat} (I:Ins lev data l i j) (hi:i<l.length) (hj:0<j) (h:lev.getD (l.getD j 0) 0<lev.getD (l.getD (j-1) 0) 0):Ins lev data ((l.set j (l.getD (j-1) 0)).set (j-1) (l.getD j 0)) i (j-1):=by
 have:=I.jle
 refine⟨(swap_perm (by omega) (by omega)).trans I.perm,by omega,fun p q hpq hq hne=>?_⟩
 rw[uP (by omega) (by omega),uP (by omega) (by omega),if_neg hne]
 by_cases c:q=j
 ·subst c
  rw[if_pos rfl]
  by_cases e:p=q-1
  ·rw[if_pos e];omega
  ·rw[if_neg e,if_neg (by omega)]
   exact I.ord p (q-1) (by omega) (by omega) (by omega)
 ·rw[if_neg c]
  by_cases e:p=j-1
  ·rw[if_pos e]
   exact I.ord j q (by omega) hq c
  ·rw[if_neg e]
   by_cases e2:p=j
   ·rw[if_pos e2]
    exact I.ord (j-1) q (by omega) hq c
   ·rw[if_neg e2]
    exact I.ord p q hpq hq c
theorem Ins.fin {lev data l:List Nat}{i j:Nat} (I:Ins lev data l i j) (h:j=0\/lev.getD (l.getD (j-1) 0) 0<=lev.getD (l.getD j 0) 0):∀ p q,p<q->q<=i->lev.getD (l.getD p 0) 0<=lev.getD (l.getD q 0) 0:=by
 intro p q hpq hq
 by_cases c:q=j
 ·subst c
  have h:=h.resolve_left (by omega)
  by_cases e:p=q-1
  ·subst e;exact h
  ·exact Nat.le_trans (I.ord p (q-1) (by omega) (by omega) (by omega)) h
 ·exact I.ord p q hpq hq c
structure Sorted (lev data l:List Nat):Prop where
 perm:l.Perm data
 ord:∀ p q,p<q->q<l.length->lev.getD (l.getD p 0) 0<=lev.getD (l.getD q 0) 0
theorem B2 {data lev:List Nat}{K:List Nat->Prop} (hn:data.length<=16) (hlev:∀ x∈data,x<lev.length) (h:∀ l,Sorted lev data l->K l):fk data lev data.length 0 data.length K:=by
 unfold fk
 refine⟨by omega,?_⟩
 refine bn (fun s=>s.1.Perm data/\1<=s.2/\∀ p q,p<q->q<s.2->q<data.length->lev.getD (s.1.getD p 0) 0<=lev.getD (s.1.getD q 0) 0) (fun s=>data.length-s.2) ?_ ⟨List.Perm.refl _,by dsimp only;omega,fun p q h1 h2=>by dsimp only at h2;omega⟩
 rintro⟨l,i⟩ nx ⟨hp,hi1,hord⟩ hnx
 dsimp only at hp hi1 hord
 have hl:=hp.length_eq
 refine⟨fun q=>?_,fun q=>?_⟩
 ·have q:=aJ.1 q
  try dsimp only at q
  refine ay (fun s=>Ins lev data s.1 i s.2) (fun s=>s.2) (fun a=>a.Perm data/\∀ p q,p<q->q<=i->lev.getD (a.getD p 0) 0<=lev.getD (a.getD q 0) 0) ?_ ?_ ?_
  ·rintro k ⟨m,j⟩ nx2 I hnx2 hk
   dsimp only at I
   try dsimp only
   have hm:=I.perm.length_eq
   have hji:=I.jle
   have gm:∀ p,p<data.length->m[p]?=some (m.getD p 0):=fun p hp=>fa hm hp
   have gl:∀ p,p<data.length->lev[m.getD p 0]?=some (lev.getD (m.getD p 0) 0):=fun p hp=>fa rfl (hlev _ (I.perm.mem_iff.1 (List.mem_of_getElem? (gm p hp))))
   refine dD ⟨fun c=>?_,fun c=>?_⟩
   ·have c:=aJ.1 c
    refine⟨by omega,_,gm j (by omega),by omega,by omega,by omega,_,gm (j-1) (by omega),_,gl j (by omega),_,gl (j-1) (by omega),wy ?_⟩
    rw[Ax]
    refine⟨fun e=>?_,fun e=>?_⟩
    ·have e:=of_decide_eq_true e
     refine⟨by omega,by omega,by omega,by omega,by omega,_,gm (j-1) (by omega),by omega,_,gm j (by omega),by omega,_,gm j (by omega),by omega,?_⟩
     have hj2:j-1<(m.set j (m.getD (j-1) 0)).length:=by rw[List.length_set];omega
     exact⟨_,List.getElem?_eq_getElem hj2,by omega,by omega,hnx2 _ (I.swap (by omega) c e) (by dsimp only;omega)⟩
    ·have e:=of_decide_eq_false e
     exact hk m ⟨I.perm,I.fin (.inr (by omega))⟩
   ·have c:=aU.1 c
    exact⟨(fun q=>by cases q),fun _=>hk m ⟨I.perm,I.fin (.inl (by omega))⟩⟩
  ·refine⟨hp,Nat.le_refl _,fun p q2 h1 h2 h3=>hord p q2 h1 (by omega) (by omega)⟩
  ·rintro a ⟨ha,hb⟩
   exact⟨by omega,hnx (a,i+1) ⟨ha,by dsimp only;omega,fun p q2 h1 h2 h3=>hb p q2 h1 (by dsimp only at h2;omega)⟩ (by dsimp only;omega)⟩
 ·have q:=aU.1 q
  exact h l ⟨hp,fun p q2 h1 h2=>hord p q2 h1 (by omega) (by omega)⟩
theorem xT {data lev:List Nat}{K:List Nat->Prop} (hn:data.length<=16) (hlev:∀ x∈data,x<lev.length) (h:∀ l,Sorted lev data l->K l):dQ data lev data.length data.length K:=by
 unfold dQ
 refine ay (fun s=>s=(data,0,20)) (fun _=>0) (fun a=>a=(data,0)) ?_ rfl ?_
 ·rintro k s nx rfl _ hk
  exact⟨fun q=>absurd (jz.1 q) (by omega),fun _=>hk _ rfl⟩
 ·rintro a rfl
  refine B2 hn hlev fun l hl=>?_
  refine bn (fun s=>s=20) (fun _=>0) ?_ rfl
  rintro s nx rfl _
  exact⟨fun q=>absurd (aJ.1 q) (by omega),fun _=>h l hl⟩
structure OrdOk (c:Circ) (o:List Nat):Prop where
 perm:o.Perm (List.range c.nodes.length)
 before:∀ (a i:Nat) (x:Node) (k:Nat),o[a]?=some i->c.nodes[i]?=some x->isComb x.kind->k∈x.ins->∃ b,b<a/\o[b]?=some k
theorem BP {c:Circ} (g:Good c) {lev o:List Nat} (hl:LevOk c lev) (hs:Sorted lev (List.range c.nodes.length) o):OrdOk c o:=by
 refine⟨hs.perm,fun a i x k ha hx hc hk=>?_⟩
 have hk2:k<c.nodes.length:=(g.node i x hx).ins k hk
 have hko:k∈o:=hs.perm.mem_iff.2 (List.mem_range.2 hk2)
 obtain⟨b,hb,e⟩:=List.getElem_of_mem hko
 have hb2:o[b]?=some k:=by rw[List.getElem?_eq_getElem hb,e]
 refine⟨b,?_,hb2⟩
 have hup:=hl.up i x hx hc k hk
 have ga:o.getD a 0=i:=by rw[List.getD,ha];rfl
 have gb:o.getD b 0=k:=by rw[List.getD,hb2];rfl
 rcases Nat.lt_trichotomy b a with q|q|q
 ·exact q
 ·subst q;rw[ha] at hb2;cases hb2;omega
 ·have:=hs.ord a b q hb
  rw[ga,gb] at this
  omega
theorem uI {c:Circ}{K:List Nat×Nat->Prop} (g:Good c) (h:∀ o,OrdOk c o->K (o,0)):aW c K:=by
 have hlen:=g.len
 unfold aW
 refine sE g fun lev hl=>⟨fun q=>absurd rfl (eL.1 q),fun _=>⟨by omega,by omega,?_⟩⟩
 refine ay (fun s=>s.2<=c.nodes.length/\s.1.length=c.nodes.length/\∀ j,j<s.2->s.1[j]?=some j) (fun s=>c.nodes.length-s.2) (fun a=>a=List.range c.nodes.length) ?_ ⟨Nat.zero_le _,by simp,fun j hj=>absurd hj (Nat.not_lt_zero _)⟩ ?_
 ·rintro k ⟨l,i⟩ nx ⟨hi,h1,h2⟩ hnx hk
  dsimp only at hi h1 h2
  refine⟨fun q=>?_,fun q=>?_⟩
  ·have q:=aJ.1 q
   try dsimp only at q
   refine⟨q,_,fa h1 q,by omega,hnx (l.set i i,i+1) ⟨q,by simp[h1],fun j hj=>?_⟩ (by dsimp only;omega)⟩
   dsimp only at hj ⊢
   rw[List.getElem?_set]
   by_cases e:i=j
   ·rw[if_pos e,if_pos (by omega),e]
   ·rw[if_neg e];exact h2 j (by omega)
  ·have q:=aU.1 q
   try dsimp only at q
   refine hk l (List.ext_getElem? fun j=>?_)
   by_cases e:j<c.nodes.length
   ·rw[h2 j (by omega),List.getElem?_range e]
   ·rw[List.getElem?_eq_none (by omega),List.getElem?_eq_none (by simp;omega)]
 ·rintro a rfl
  unfold jf
  have e:(List.range c.nodes.length).length=c.nodes.length:=by simp
  have:=xT (data:=List.range c.nodes.length) (lev:=lev) (K:=fun x1=>c.nodes.length=x1.length/\K (x1,0)) (by omega) (fun x m=>by rw[hl.len];exact List.mem_range.1 m) (fun l hs=>⟨by have:=hs.perm.length_eq;omega,h l (BP g hl hs)⟩)
  rw[e] at this
  exact this
set_option maxHeartbeats 8000000
def gr (p0:Circ) (K:(List (List Ln))->Prop):Prop :=
 24*p0.nodes.length<=2 ^ 48/\p0.nodes.length<2 ^ 63/\an (α:=(List (List Ln))) (fun k6=>av (S:=((List (List Ln))×Nat)) (fun (v7,v9) nx11=>((ltN v9 p0.nodes.length)=true->an (α:=(List (List Ln))) (fun k15=>∃ x16,p0.nodes[v9]?=some x16/\av (S:=((List (List Ln))×Nat)) (fun (v19,v21) nx23=>((ltN v21 x16.ins.length)=true->an (α:=(List (List Ln))) (fun k27=>∃ x28,x16.ins[v21]?=some x28/\((ltN x28 0)=true->k27 v19)/\((ltN x28 0)=false->((!(!ltN x28 p0.nodes.length))=true->x28<p0.nodes.length/\∃ x29,v19[x28]?=some x29/\(x29.length+([(⟨v9,v21⟩:Ln)]:(List Ln)).length)*16<=2 ^ 47/\x28<p0.nodes.length/\k27 (v19.set x28 (x29++([(⟨v9,v21⟩:Ln)]:(List Ln)))))/\((!(!ltN x28 p0.nodes.length))=false->k27 v19))) (fun v24=>v21+1<2 ^ 63/\nx23 (v24,(v21+1))))/\((ltN v21 x16.ins.length)=false->k15 v19)) (v7,0)) (fun v12=>v9+1<2 ^ 63/\nx11 (v12,(v9+1))))/\((ltN v9 p0.nodes.length)=false->k6 v7)) ((List.replicate p0.nodes.length ([]:List Ln)),0)) (fun v3=>an (α:=(List (List Ln))) (fun k40=>av (S:=((List (List Ln))×Nat)) (fun (v41,v43) nx45=>((ltN v43 p0.nodes.length)=true->v43<p0.nodes.length/\∃ x46,v41[v43]?=some x46/\v43<p0.nodes.length/\v43+1<2 ^ 63/\nx45 ((v41.set v43 x46),(v43+1)))/\((ltN v43 p0.nodes.length)=false->k40 v41)) (v3,0)) (fun v37=>p0.nodes.length=v37.length/\K v37))
theorem py {p0:Circ}{K:(List (List Ln))->Prop} (hm:gr p0 K) {h0:Heap} (hB:HasB vars h0):∃ r,K r/\CallD Tryz.prog NG 98 ⟨[aA p0]⟩ h0 ((ag 1 (ag 2 bX)) r) h0:=by
 unfold gr at hm
 refine fw Tryz.func98 hB (enc:=(ag 1 (ag 2 bX))) (fun r=>dg (fun _=>aj.cons (dg (fun _=>uU _)) aj.nil)) fun O=>?_;conv=>whnf
 refine gX ?_
 refine fz ?_;refine gX ?_
 refine Own.zV (α:=Ln) (b:=24) (n:=p0.nodes.length) bX 2 O rfl rfl rfl rfl rfl rfl hm.1 hm.2.1 fun g1 h O=>?_;refine gX ?_
 replace hm:=hm.2.2
 refine fg Tryz.func129 ?_;refine gX ?_
 refine fz ?_;refine gH ?_
 apply Cs;conv=>whnf
 apply Cs;refine gH ?_
 apply Cs;conv=>whnf
 refine gH ?_
 refine jn (σ:=(List (List Ln))×(List (Option Nat))) hm 65 [3] (fun s=>s.1) (fun (v3,a4) h=>RowsOk a4 v3/\Own vars h0 ([((some g1),.cells (aX 2 bX a4 v3) false)]++(aN bX a4 v3)) h) (fun (v3,a4)=>[]) (fun hm=>?_) ?_
 ·refine gX ?_
  refine lw 65 [3,4,18,19] (σ:=((List (List Ln))×Nat)×(List (Option Nat))) (fun s=>s.1) (fun ((v7,v9),a8) h=>RowsOk a8 v7/\Own vars h0 ([((some g1),.cells (aX 2 bX a8 v7) false)]++(aN bX a8 v7)) h) (fun ((v7,v9),a8)=>[(20,(i64 v9))]) (((List.replicate p0.nodes.length ([]:List Ln)),0),(List.replicate p0.nodes.length none)) hm ⟨(RowsOk.start p0.nodes.length),O⟩ ?_
  clear hm;rintro⟨⟨v7,v9⟩,a8⟩ nx11 base h hm ⟨hr10,O⟩
  refine gX ?_
  refine br hm (fun hm=>?_) fun hm=>?_
  ·apply Cs;conv=>whnf
   refine jn (σ:=(List (List Ln))×(List (Option Nat))) hm 65 [3,4,18,19,20] (fun s=>s.1) (fun (v12,a13) h=>RowsOk a13 v12/\Own vars h0 ([((some g1),.cells (aX 2 bX a13 v12) false)]++(aN bX a13 v12)) h) (fun (v12,a13)=>[]) (fun hm=>?_) ?_
   ·refine gX ?_
    refine atF hm fun x16 hx16 hm=>?_;refine gH ?_
    refine O.new (ai (l:=[(n8 0),(.slice none 0 0),(i64 0),(i64 0)]) rfl rfl rfl) fun g17 h O=>?_;refine gH ?_
    refine O.stC 4 (.head _) [(n8 x16.kind),((ag 1 i64) x16.ins),(i64 x16.mem),(i64 x16.bit)] fun h O=>?_;refine gX ?_
    refine lw 65 [3,4,5,18,19,20,26,27] (σ:=((List (List Ln))×Nat)×(List (Option Nat))) (fun s=>s.1) (fun ((v19,v21),a20) h=>RowsOk a20 v19/\Own vars h0 ([((some g1),.cells (aX 2 bX a20 v19) false)]++(aN bX a20 v19)) h) (fun ((v19,v21),a20)=>[(28,(i64 v21))]) ((v7,0),a8) hm ⟨hr10,(Own.CH [((some g17),.cells [(n8 x16.kind),((ag 1 i64) x16.ins),(i64 x16.mem),(i64 x16.bit)] false),((some g1),.cells (aX 2 bX a8 v7) false)] (L:=(aN bX a8 v7)) O [1] (by decide))⟩ ?_
    clear hm;rintro⟨⟨v19,v21⟩,a20⟩ nx23 base h hm ⟨hr22,O⟩
    refine gX ?_
    refine br hm (fun hm=>?_) fun hm=>?_
    ·apply Cs;conv=>whnf
     refine jn (σ:=(List (List Ln))×(List (Option Nat))) hm 65 [3,4,5,18,19,20,26,27,28] (fun s=>s.1) (fun (v24,a25) h=>RowsOk a25 v24/\Own vars h0 ([((some g1),.cells (aX 2 bX a25 v24) false)]++(aN bX a25 v24)) h) (fun (v24,a25)=>[]) (fun hm=>?_) ?_
     ·refine gX ?_
      refine atF hm fun x28 hx28 hm=>?_;refine gX ?_
      refine fg Tryz.func143 ?_;refine gX ?_
      refine br hm (fun hm=>?_) fun hm=>?_
      ·refine gX ?_
       refine bf ?_;refine gX ?_
       exact jx (v19,a20) hm ⟨hr22,O⟩
      ·refine gX ?_
       refine br hm (fun hm=>?_) fun hm=>?_
       ·refine gX ?_
        refine cU (s:=1) (j:=x28) rfl rfl rfl rfl hm.1 ?_;refine gH ?_
        replace hm:=hm.2
        obtain⟨x29,hx29,hm⟩:=hm
        obtain⟨a30,hA32,ha31,O⟩:=Own.focus (S:=[((some g1),.cells (aX 2 bX a20 v19) false)]) hr22 O hx29
        refine⟨_,xj (O.at (.tail _ (.head _))) hA32 hx29 rfl rfl,?_⟩;refine gH ?_
        refine fz ?_;refine gH ?_
        refine O.apL (enc:=bX) (l:=x29) (new:=([(⟨v9,v21⟩:Ln)]:(List Ln))) 2 (.head _) ha31.1 hm fun a34 h ha35 O hm=>?_;refine gH ?_
        refine cU (s:=1) (j:=x28) rfl rfl rfl rfl hm.1 ?_;refine gH ?_
        replace hm:=hm.2
        refine O.ue (s:=2) (enc:=bX) (j:=x28) (v:=(ah 2 a34 ((x29++([(⟨v9,v21⟩:Ln)]:(List Ln))).map bX))) (.tail _ (.head _)) hr22 hx29 rfl rfl rfl rfl rfl fun h O=>?_;refine gH ?_
        rw[<- oQ] at O
        have hr36:RowsOk (a20.set x28 a34) (v19.set x28 (x29++([(⟨v9,v21⟩:Ln)]:(List Ln)))):=RowsOk.set hr22 ⟨ha35,fun e=>absurd e (by simp)⟩
        replace O:=Own.wQ (S:=[(some g1,.cells (aX 2 bX (a20.set x28 a34) (v19.set x28 (x29++([(⟨v9,v21⟩:Ln)]:(List Ln))))) false)]) O hx29 hr22
        exact jx ((v19.set x28 (x29++([(⟨v9,v21⟩:Ln)]:(List Ln)))),(a20.set x28 a34)) hm ⟨hr36,O⟩
       ·refine gX ?_
        exact jx (v19,a20) hm ⟨hr22,O⟩
     ·clear hm;rintro⟨v24,a25⟩ base h hm ⟨hr26,O⟩
      refine gX ?_
      refine aF hm fun hm=>?_;refine gH ?_
      exact jx ((v24,(v21+1)),a25) hm ⟨hr26,O⟩
    ·refine gX ?_
     exact jx (v19,a20) hm ⟨hr22,O⟩
   ·clear hm;rintro⟨v12,a13⟩ base h hm ⟨hr14,O⟩
    refine gX ?_
    refine aF hm fun hm=>?_;refine gH ?_
    exact jx ((v12,(v9+1)),a13) hm ⟨hr14,O⟩
  ·refine gX ?_
   exact jx (v7,a8) hm ⟨hr10,O⟩
 ·clear hm;rintro⟨v3,a4⟩ base h hm ⟨hr5,O⟩
  conv=>whnf
  refine jn (σ:=(List (List Ln))×(List (Option Nat))) hm 65 [3] (fun s=>s.1) (fun (v37,a38) h=>RowsOk a38 v37/\Own vars h0 ([((some g1),.cells (aX 2 bX a38 v37) false)]++(aN bX a38 v37)) h) (fun (v37,a38)=>[]) (fun hm=>?_) ?_
  ·refine gX ?_
   refine lw 65 [3,51,52] (σ:=((List (List Ln))×Nat)×(List (Option Nat))) (fun s=>s.1) (fun ((v41,v43),a42) h=>RowsOk a42 v41/\Own vars h0 ([((some g1),.cells (aX 2 bX a42 v41) false)]++(aN bX a42 v41)) h) (fun ((v41,v43),a42)=>[(53,(i64 v43))]) ((v3,0),a4) hm ⟨hr5,O⟩ ?_
   clear hm;rintro⟨⟨v41,v43⟩,a42⟩ nx45 base h hm ⟨hr44,O⟩
   refine gX ?_
   refine br hm (fun hm=>?_) fun hm=>?_
   ·refine gX ?_
    refine cU (s:=1) (j:=v43) rfl rfl rfl rfl hm.1 ?_;refine gH ?_
    replace hm:=hm.2
    obtain⟨x46,hx46,hm⟩:=hm
    obtain⟨a47,hA49,ha48,O⟩:=Own.focus (S:=[((some g1),.cells (aX 2 bX a42 v41) false)]) hr44 O hx46
    refine⟨_,xj (O.at (.tail _ (.head _))) hA49 hx46 rfl rfl,?_⟩;refine gX ?_
    refine fg Tryz.func77 ?_;refine gX ?_
    refine gK (s:=2) (enc:=bX) (l:=x46) (n:=x46.length) (m:=x46.length) rfl rfl rfl rfl rfl rfl rfl ?_;refine gX ?_
    refine cU (s:=1) (j:=v43) rfl rfl rfl rfl hm.1 ?_;refine gH ?_
    replace hm:=hm.2
    refine O.ue (s:=2) (enc:=bX) (j:=v43) (v:=(bN a47 (x46.map bX))) (.tail _ (.head _)) hr44 hx46 rfl rfl rfl rfl rfl fun h O=>?_;refine gH ?_
    refine CodeS.xa (cs':=(aX 2 bX a42 v41).set v43 (ah 2 a47 (x46.map bX))) O (.tail _ (.head _)) (t2:=3) rfl rfl (LLe.set (O.zQ (.head _) (fun _=>rfl) ha48)) fun h O=>?_
    rw[<- oQ] at O
    have hr51:RowsOk (a42.set v43 a47) (v41.set v43 x46):=RowsOk.set hr44 ha48
    replace O:=Own.wQ (S:=[(some g1,.cells (aX 2 bX (a42.set v43 a47) (v41.set v43 x46)) false)]) O hx46 hr44
    refine gX ?_
    refine aF hm fun hm=>?_;refine gH ?_
    exact jx (((v41.set v43 x46),(v43+1)),(a42.set v43 a47)) hm ⟨hr51,O⟩
   ·refine gX ?_
    exact jx (v41,a42) hm ⟨hr44,O⟩
  ·clear hm;rintro⟨v37,a38⟩ base h hm ⟨hr39,O⟩
   refine gX ?_
   obtain⟨hn52,hm⟩:=hm
   exact⟨v37,hm,O.ext,fun h2 F=>Own.Bz (L:=[((some g1),.cells (aX 2 bX a38 v37) false)]) O F (Nat.le_refl _) (.head _) hr39 (fun _=>rfl) hn52⟩
set_option maxHeartbeats 8000000
def gW (p0:Circ) (K:Nat->Prop):Prop :=
 an (α:=Unit) (fun k3=>av (S:=((List (ByteArray×Bool))×Nat)) (fun (v4,v5) nx6=>((ltN v5 p0.names.length)=true->∃ x7,p0.names[v5]?=some x7/\an (α:=Bool) (fun k9=>iv x7 (fun r10=>((!r10)=true->k9 true)/\((!r10)=false->k9 ((jo v4 x7).getD false)))) (fun v8=>(v8=true->K 5)/\(v8=false->v5+1<2 ^ 63/\nx6 ((iA v4 x7 true),(v5+1)))))/\((ltN v5 p0.names.length)=false->k3 ())) (([]:List (ByteArray×Bool)),0)) (fun _=>K 0)
theorem kN {p0:Circ}{K:Nat->Prop} (hm:gW p0 K) {h0:Heap} (hB:HasB vars h0):∃ r,K r/\CallD Tryz.prog NG 126 ⟨[aA p0]⟩ h0 (i64 r) h0:=by
 unfold gW at hm
 refine fw Tryz.func126 hB (enc:=i64) (fun r=>PureV.flat rfl) fun O=>?_;conv=>whnf
 refine gX ?_
 refine fz ?_;refine gX ?_
 refine O.new ((rfl:anew _ _ _=some (.map (bO Value.string Value.bool ([]:List (ByteArray×Bool))),fun g=>.map (some g)))) fun g1 h O=>?_;refine gH ?_
 refine jn hm 25 [] (fun s=>s) (fun _ h=>Own vars h0 [] h) (fun _=>[]) (fun hm=>?_) ?_
 ·refine gX ?_
  refine lw 25 [3,8,9] (σ:=((List (ByteArray×Bool))×Nat)) (fun s=>s) (fun (v4,v5) h=>Own vars h0 [((some g1),.map (bO Value.string Value.bool v4))] h) (fun (v4,v5)=>[(10,(i64 v5))]) (([]:List (ByteArray×Bool)),0) hm O ?_
  clear hm;rintro⟨v4,v5⟩ nx6 base h hm O
  refine gX ?_
  refine br hm (fun hm=>?_) fun hm=>?_
  ·refine gX ?_
   refine atF hm fun x7 hx7 hm=>?_;refine gH ?_
   apply Cs;conv=>whnf
   refine jn hm 25 [3,5,8,9,10] (fun s=>s) (fun v8 h=>Own vars h0 [((some g1),.map (bO Value.string Value.bool v4))] h) (fun v8=>[(21,(.bool v8))]) (fun hm=>?_) ?_
   ·refine gX ?_
    refine ca (kL hm O.has) fun r10 hm=>?_;refine gH ?_
    refine br hm (fun hm=>?_) fun hm=>?_
    ·refine gX ?_
     exact jx true hm O
    ·refine gX ?_
     refine⟨_,xt (ek:=Value.string) (ev:=Value.bool) (m:=v4) (k:=x7) (z:=false) rfl rfl rfl rfl (by kernel_rfl) xr (O.at (.head _)) rfl rfl,?_⟩;refine gH ?_
     exact jx ((jo v4 x7).getD false) hm O
   ·clear hm;rintro v8 base h hm O
    refine gX ?_
    refine br hm (fun hm=>?_) fun hm=>?_
    ·refine gX ?_
     exact fe hm O
    ·refine gX ?_
     refine O.qk (ek:=Value.string) (ev:=Value.bool) (m:=v4) (k:=x7) (v:=true) (.head _) rfl rfl rfl xr rfl rfl rfl fun h O=>?_;refine gX ?_
     refine aF hm fun hm=>?_;refine gH ?_
     exact jx ((iA v4 x7 true),(v5+1)) hm O
  ·refine gX ?_
   exact jx () hm (O.sel [] (by decide))
 ·clear hm;rintro _ base h hm O
  refine gX ?_
  exact fe hm O
theorem dT (l:List Nat):∀ e∈l.map i64,(cl e).length=1:=by
 intro e m
 obtain⟨a,_,rfl⟩:=List.mem_map.1 m
 rfl
theorem qN:∀ l:List Nat,flatC (l.map i64)=l.map i64
 |[]=>rfl
 |a::l=>by rw[List.map_cons,dR,qN l];rfl
def cx (ks:List Nat):Nat->List Nat
 |0=>[]
 |i+1=>if ks.getD i 0=12 then cx ks i++[i] else cx ks i
def gR (bus:Bool) (g:GData) (ks:List Nat):Node :=
 if (if bus then g.kind%13 else g.kind%9)<6 then ⟨5+(if bus then g.kind%13 else g.kind%9),if 128<=g.kind then [g.a%ks.length,g.b%ks.length,g.d%ks.length] else [g.a%ks.length,g.b%ks.length],0,0⟩
 else if (if bus then g.kind%13 else g.kind%9)=6 then ⟨4,[g.a%ks.length],0,0⟩
 else if (if bus then g.kind%13 else g.kind%9)=7 then ⟨11,[g.a%ks.length,g.b%ks.length,g.d%ks.length],0,0⟩
 else if (if bus then g.kind%13 else g.kind%9)=9\/(if bus then g.kind%13 else g.kind%9)=10 then ⟨12,[g.a%ks.length,g.b%ks.length],0,0⟩
 else if 10<(if bus then g.kind%13 else g.kind%9)/\0<(cx ks ks.length).length then
  ⟨13,if 1<(cx ks ks.length).length then [(cx ks ks.length).getD (g.a%(cx ks ks.length).length) 0,(cx ks ks.length).getD ((g.a%(cx ks ks.length).length+1)%(cx ks ks.length).length) 0] else [(cx ks ks.length).getD (g.a%(cx ks ks.length).length) 0],0,0⟩
 else if 240<g.kind then ⟨1+g.a%2,[],0,0⟩
 else ⟨3,[g.a%ks.length],0,0⟩
theorem rH (ks:List Nat):∀ i,(cx ks i).length<=i
 |0=>Nat.le_refl 0
 |i+1=>by
  have:=rH ks i
  unfold cx
  split
  ·simp;omega
  ·omega
set_option maxHeartbeats 8000000 in
theorem zf {x:CData}{g:GData} (hg:GOk g) {ks:List Nat} (hn:0<ks.length) (hn2:ks.length<=1000) {gn:Nat}{sp:Option Nat}{cap:Nat}{cs:List Value}{ro:Bool}{h0:Heap} (hB:HasB vars h0)
   (hgn:h0.get gn=some (.cells cs ro)) (hcs:∀ i,i<ks.length->cs[0+i*4]?=some (n8 (ks.getD i 0))) :
   CallD Tryz.prog NG 91 #[bD x,rZ g,.slice (some ⟨gn,0,sp⟩) ks.length cap] h0 (al (gR x.bus g ks)) h0:=by
 obtain⟨kind,a,b,d⟩:=g
 obtain⟨inp,dffs,data0,data1,bus,mem,p0,p1,p2,p3,gates,outs⟩:=x
 obtain⟨hk,ha,hb,hd⟩:=hg
 simp only at hk ha hb hd
 have hnode:∀ k ins,al ⟨k,ins,0,0⟩=al ⟨k,ins,0,0⟩:=fun _ _=>rfl
 unfold gR
 simp only
 refine fnH hM Tryz.func91 rfl (hP _ _ rfl Tryz.func91) (lbE rfl) (hB) (xK _) fun O=>?_;(conv=>whnf);repeat(first|apply Cs|apply Rs|apply Rx);conv=>whnf
 refine NewG.frz rfl ?_;(conv=>whnf);repeat(first|apply Cs|apply Rs|apply Rx);conv=>whnf
 refine NewG.frz rfl ?_;(conv=>whnf);repeat(first|apply Cs|apply Rs|apply Rx);conv=>whnf
 refine O.new (ai (l:=[u8 0,.slice none 0 0,i64 0,i64 0]) rfl rfl rfl) fun g6 h O=>?_;(conv=>whnf);repeat(first|apply Cs|apply Rs|apply Rx);conv=>whnf
 ((conv=>whnf);repeat(first|apply Cs|apply Rs|apply Rx);conv=>whnf);repeat((first|refine⟨_,(rfl:aQ _ _ _ _=some _),?_⟩|refine tp rfl ?_|refine⟨_,gG rfl rfl rfl (pE _ (by omega)),?_⟩|refine⟨_,rW rfl rfl (by omega),?_⟩|refine⟨.inl rfl,?_⟩);((conv=>whnf);repeat(first|apply Cs|apply Rs|apply Rx);conv=>whnf))
 refine BT hM (by kernel_rfl) (nn:=158) ks.length (fun i (a:Option Nat) h'=>(a=none->cx ks i=[])/\Own vars h0 [(a,.cells (flatC ((cx ks i).map i64)) false),(some g6,.cells [u8 0,.slice none 0 0,i64 0,i64 0] false)] h')
   (fun i t=>[(2,.slice (some ⟨gn,0,sp⟩) ks.length cap),(3,FP (bD ⟨inp,dffs,data0,data1,bus,mem,p0,p1,p2,p3,gates,outs⟩)),(4,FP (rZ ⟨kind,a,b,d⟩)),(6,.pointer (some ⟨g6,0,none⟩)),(7,i64 ks.length),(8,i64 (a%ks.length)),(9,i64 (b%ks.length)),(10,i64 (d%ks.length)),(11,ah 1 t ((cx ks i).map i64)),(12,i64 i)])
   rfl none ⟨fun _=>rfl,O.aG _⟩ ⟨rfl,rfl,rfl,rfl,rfl,rfl,rfl,rfl,rfl,rfl,trivial⟩ ?_ ?_
 · rintro i t base h1 hi ⟨ht,O⟩
   have hle:=rH ks i
   ((conv=>whnf);repeat(first|apply Cs|apply Rs|apply Rx);conv=>whnf)
   refine⟨_,rfl,fun _=>?_,(fun hx=>nomatch (hx.symm.trans (BU hi)))⟩;(conv=>whnf);repeat(first|apply Cs|apply Rs|apply Rx);conv=>whnf
   refine cU (s:=4) rfl rfl rfl rfl hi ?_;(conv=>whnf);repeat(first|apply Cs|apply Rs|apply Rx);conv=>whnf
   refine⟨_,ae rfl (O.ext.get hgn) rfl (hcs i hi),?_⟩;(conv=>whnf);repeat(first|apply Cs|apply Rs|apply Rx);conv=>whnf
   refine⟨_,rfl,fun hc=>?_,fun hc=>?_⟩
   · have hk12:ks.getD i 0=12:=by have:=eq_of_beq hc;simp only[Int.ofNat_eq_natCast] at this;omega
     have hts:cx ks (i+1)=cx ks i++[i]:=by rw[cx,if_pos hk12]
     have hv:(cx ks i).map i64++[i64 i]=(cx ks (i+1)).map i64:=by rw[hts,List.map_append];rfl
     ((conv=>whnf);repeat(first|apply Cs|apply Rs|apply Rx);conv=>whnf)
     refine NewG.frz rfl ?_;(conv=>whnf);repeat(first|apply Cs|apply Rs|apply Rx);conv=>whnf
     refine O.append (s:=1) (b:=8) (m:=1) (new:=[i64 i]) (.head _) (fun e=>by rw[ht e];rfl) rfl rfl rfl rfl rfl rfl rfl rfl rfl rfl rfl (by rw[hv];exact dT _) rfl (by decide) (by rw[List.length_map];omega) (hv) fun t' h ha O=>?_;(conv=>whnf);repeat(first|apply Cs|apply Rs|apply Rx);conv=>whnf
     refine⟨_,AG (b:=1) rfl rfl (by omega),?_⟩;(conv=>whnf);repeat(first|apply Cs|apply Rs|apply Rx);conv=>whnf
     exact⟨t',⟨fun e=>by have:=ha e;simpa using this,O⟩,rfl,rfl,rfl,rfl,rfl,rfl,rfl,rfl,rfl,rfl,trivial⟩
   · have hk12:¬ ks.getD i 0=12:=fun e=>by rw[e] at hc;cases hc
     have hts:cx ks (i+1)=cx ks i:=by rw[cx,if_neg hk12]
     ((conv=>whnf);repeat(first|apply Cs|apply Rs|apply Rx);conv=>whnf)
     refine⟨_,AG (b:=1) rfl rfl (by omega),?_⟩;(conv=>whnf);repeat(first|apply Cs|apply Rs|apply Rx);conv=>whnf
     exact⟨t,by rw[hts];exact⟨ht,O⟩,rfl,rfl,rfl,rfl,rfl,rfl,rfl,rfl,by rw[hts];rfl,rfl,trivial⟩
 · rintro t base h1 ⟨ht,O⟩
   have hle:=rH ks ks.length
   generalize cx ks ks.length=T at ht O hle
   ((conv=>whnf);repeat(first|apply Cs|apply Rs|apply Rx);conv=>whnf)
   refine⟨_,rfl,(fun hx=>nomatch (hx.symm.trans (BW ks.length))),fun _=>?_⟩;(conv=>whnf);repeat(first|apply Cs|apply Rs|apply Rx);conv=>whnf
   have hU8:∀ n:Nat,n<256->IntKind.u8.wrap (Int.ofNat n)=Int.ofNat n:=fun n hn=>IntWalk.u8_in _ (by simp only[Int.ofNat_eq_natCast];omega)
   cases bus with
   | true =>
     ((conv=>whnf);repeat(first|apply Cs|apply Rs|apply Rx);conv=>whnf);repeat((first|refine⟨true,rfl,fun _=>?_,(fun hc=>nomatch hc)⟩|refine⟨_,(rfl:aQ _ _ _ _=some _),?_⟩|refine⟨_,gG rfl rfl rfl (pE _ (by omega)),?_⟩|refine⟨_,rW (b:=9) rfl rfl (by decide),?_⟩|refine⟨_,rW (b:=13) rfl rfl (by decide),?_⟩);((conv=>whnf);repeat(first|apply Cs|apply Rs|apply Rx);conv=>whnf))
     simp only[if_true]
     generalize hkk:kind%13=kk
     have hk13:kk<13:=by omega
     refine⟨_,rfl,fun hc=>?_,fun hc=>?_⟩
     · have h6:kk<6:=(by have:=di (hc);first|omega | (simp only[Int.ofNat_eq_natCast] at this;omega))
       rw[if_pos h6]
       ((conv=>whnf);repeat(first|apply Cs|apply Rs|apply Rx);conv=>whnf)
       refine⟨_,gG rfl rfl rfl (hU8 kk (by omega)),?_⟩;(conv=>whnf);repeat(first|apply Cs|apply Rs|apply Rx);conv=>whnf
       refine⟨_,pV (a:=5) rfl rfl (by omega),?_⟩;(conv=>whnf);repeat(first|apply Cs|apply Rs|apply Rx);conv=>whnf
       refine O.new (mB (vs:=[i64 (a%ks.length),i64 (b%ks.length)]) (s:=1) (z:=i64 0) rfl rfl (by kernel_rfl) (by kernel_rfl) rfl rfl rfl rfl (dT [a%ks.length,b%ks.length])) fun gi h O=>?_;(conv=>whnf);repeat(first|apply Cs|apply Rs|apply Rx);conv=>whnf
       refine O.new (ai (l:=[u8 0,.slice none 0 0,i64 0,i64 0]) rfl rfl rfl) fun gv h O=>?_;(conv=>whnf);repeat(first|apply Cs|apply Rs|apply Rx);conv=>whnf
       ((conv=>whnf);repeat(first|apply Cs|apply Rs|apply Rx);conv=>whnf);repeat((first|refine⟨_,(rfl:aQ _ _ _ _=some _),?_⟩|refine O.store (.head _) rfl rfl rfl rfl (lbE rfl) rfl rfl fun h O=>?_);((conv=>whnf);repeat(first|apply Cs|apply Rs|apply Rx);conv=>whnf))
       refine⟨_,rfl,fun hc=>?_,fun hc=>?_⟩
       · have h128:128<=kind:=by
           have hc:(!ltI (Int.ofNat kind) 128)=true:=hc
           rw[dB] at hc
           simp at hc
           omega
         rw[if_pos h128]
         ((conv=>whnf);repeat(first|apply Cs|apply Rs|apply Rx);conv=>whnf);repeat(refine⟨_,ae rfl (O.at (.head _)) rfl rfl,?_⟩;((conv=>whnf);repeat(first|apply Cs|apply Rs|apply Rx);conv=>whnf))
         refine NewG.frz rfl ?_;(conv=>whnf);repeat(first|apply Cs|apply Rs|apply Rx);conv=>whnf
         refine O.tA (s:=1) (b:=8) (m:=1) (n:=2) (new:=[i64 (d%ks.length)]) (O.at (.tail _ (.head _))) rfl rfl rfl rfl rfl rfl rfl rfl rfl rfl rfl rfl (by decide) rfl (by decide) (by decide) rfl fun gj h O=>?_;(conv=>whnf);repeat(first|apply Cs|apply Rs|apply Rx);conv=>whnf
         ((conv=>whnf);repeat(first|apply Cs|apply Rs|apply Rx);conv=>whnf);repeat((first|refine⟨_,bg rfl (O.at (.tail _ (.head _))) rfl rfl (lbE rfl) rfl,?_⟩|refine O.store (.tail _ (.head _)) rfl rfl rfl rfl (lbE rfl) rfl rfl fun h O=>?_|refine O.store (.tail _ (.tail _ (.tail _ (.tail _ (.head _))))) rfl rfl rfl rfl (lbE rfl) rfl rfl fun h O=>?_);((conv=>whnf);repeat(first|apply Cs|apply Rs|apply Rx);conv=>whnf))
         refine⟨_,aD rfl rfl (O.at (.tail _ (.tail _ (.tail _ (.tail _ (.head _)))))) rfl rfl (lbE rfl) rfl,?_⟩;(conv=>whnf);repeat(first|apply Cs|apply Rs|apply Rx);conv=>whnf
         refine⟨O.ext,fun h2 F=>VLe.agg (LLe.cons (VLe.refl _ _) (LLe.cons (O.flat (es:=[a%ks.length,b%ks.length,d%ks.length].map i64) F (Nat.le_refl _) (.head _) rfl rfl (dT _)) (LLe.refl _ _)))⟩
       · have h128:¬ 128<=kind:=by
           have hc:(!ltI (Int.ofNat kind) 128)=false:=hc
           rw[dB] at hc
           simp at hc
           omega
         rw[if_neg h128]
         ((conv=>whnf);repeat(first|apply Cs|apply Rs|apply Rx);conv=>whnf);repeat((first|refine⟨_,bg rfl (O.at (.head _)) rfl rfl (lbE rfl) rfl,?_⟩|refine O.store (.tail _ (.tail _ (.tail _ (.head _)))) rfl rfl rfl rfl (lbE rfl) rfl rfl fun h O=>?_);((conv=>whnf);repeat(first|apply Cs|apply Rs|apply Rx);conv=>whnf))
         refine⟨_,aD rfl rfl (O.at (.tail _ (.tail _ (.tail _ (.head _))))) rfl rfl (lbE rfl) rfl,?_⟩;(conv=>whnf);repeat(first|apply Cs|apply Rs|apply Rx);conv=>whnf
         refine⟨O.ext,fun h2 F=>VLe.agg (LLe.cons (VLe.refl _ _) (LLe.cons (O.flat (es:=[a%ks.length,b%ks.length].map i64) F (Nat.le_refl _) (.tail _ (.head _)) rfl rfl (dT _)) (LLe.refl _ _)))⟩
     · have h6:¬ kk<6:=(by have:=dj (hc);first|omega | (simp only[Int.ofNat_eq_natCast] at this;omega))
       have eqN:∀ c:Nat,(Int.ofNat kk==(Int.ofNat c))=decide (kk=c):=fun c=>by
         rw[Bool.eq_iff_iff];simp only[Int.ofNat_eq_natCast,beq_iff_eq,decide_eq_true_eq];omega
       rw[if_neg h6]
       ((conv=>whnf);repeat(first|apply Cs|apply Rs|apply Rx);conv=>whnf)
       refine⟨_,rfl,fun hc=>?_,fun hc=>?_⟩
       · rw[if_pos (of_decide_eq_true ((eqN 6).symm.trans hc))]
         ((conv=>whnf);repeat(first|apply Cs|apply Rs|apply Rx);conv=>whnf);repeat((first|refine O.store (.tail _ (.head _)) rfl rfl rfl rfl (lbE rfl) rfl rfl fun h O=>?_|refine NewG.frz rfl ?_);((conv=>whnf);repeat(first|apply Cs|apply Rs|apply Rx);conv=>whnf))
         refine⟨_,aD rfl rfl (O.at (.tail _ (.head _))) rfl rfl (lbE rfl) rfl,?_⟩;(conv=>whnf);repeat(first|apply Cs|apply Rs|apply Rx);conv=>whnf
         exact O.ret
       rw[if_neg (of_decide_eq_false ((eqN 6).symm.trans hc))]
       ((conv=>whnf);repeat(first|apply Cs|apply Rs|apply Rx);conv=>whnf)
       refine⟨_,rfl,fun hc=>?_,fun hc=>?_⟩
       · rw[if_pos (of_decide_eq_true ((eqN 7).symm.trans hc))]
         ((conv=>whnf);repeat(first|apply Cs|apply Rs|apply Rx);conv=>whnf);repeat((first|refine O.store (.tail _ (.head _)) rfl rfl rfl rfl (lbE rfl) rfl rfl fun h O=>?_|refine NewG.frz rfl ?_);((conv=>whnf);repeat(first|apply Cs|apply Rs|apply Rx);conv=>whnf))
         refine⟨_,aD rfl rfl (O.at (.tail _ (.head _))) rfl rfl (lbE rfl) rfl,?_⟩;(conv=>whnf);repeat(first|apply Cs|apply Rs|apply Rx);conv=>whnf
         exact O.ret
       rw[if_neg (of_decide_eq_false ((eqN 7).symm.trans hc))]
       ((conv=>whnf);repeat(first|apply Cs|apply Rs|apply Rx);conv=>whnf)
       refine⟨_,rfl,fun hc=>?_,fun hc=>?_⟩
       · rw[if_pos (.inl (of_decide_eq_true ((eqN 9).symm.trans hc)))]
         rw[hc]
         ((conv=>whnf);repeat(first|apply Cs|apply Rs|apply Rx);conv=>whnf);repeat((first|refine⟨true,rfl,fun _=>?_,(fun hc=>nomatch hc)⟩|refine O.store (.tail _ (.head _)) rfl rfl rfl rfl (lbE rfl) rfl rfl fun h O=>?_|refine NewG.frz rfl ?_);((conv=>whnf);repeat(first|apply Cs|apply Rs|apply Rx);conv=>whnf))
         refine⟨_,aD rfl rfl (O.at (.tail _ (.head _))) rfl rfl (lbE rfl) rfl,?_⟩;(conv=>whnf);repeat(first|apply Cs|apply Rs|apply Rx);conv=>whnf
         exact O.ret
       have h9:¬ kk=9:=of_decide_eq_false ((eqN 9).symm.trans hc)
       rw[hc]
       ((conv=>whnf);repeat(first|apply Cs|apply Rs|apply Rx);conv=>whnf)
       refine⟨_,rfl,fun hc=>?_,fun hc=>?_⟩
       · rw[if_pos (.inr (of_decide_eq_true ((eqN 10).symm.trans hc)))]
         ((conv=>whnf);repeat(first|apply Cs|apply Rs|apply Rx);conv=>whnf);repeat((first|refine O.store (.tail _ (.head _)) rfl rfl rfl rfl (lbE rfl) rfl rfl fun h O=>?_|refine NewG.frz rfl ?_);((conv=>whnf);repeat(first|apply Cs|apply Rs|apply Rx);conv=>whnf))
         refine⟨_,aD rfl rfl (O.at (.tail _ (.head _))) rfl rfl (lbE rfl) rfl,?_⟩;(conv=>whnf);repeat(first|apply Cs|apply Rs|apply Rx);conv=>whnf
         exact O.ret
       rw[if_neg (fun h=>h.elim h9 (of_decide_eq_false ((eqN 10).symm.trans hc)))]
       ((conv=>whnf);repeat(first|apply Cs|apply Rs|apply Rx);conv=>whnf)
       refine⟨_,rfl,fun hc=>?_,fun hc=>?_⟩
       · have h10:10<kk:=(by have:=di (hc);first|omega | (simp only[Int.ofNat_eq_natCast] at this;omega))
         rw[hc]
         ((conv=>whnf);repeat(first|apply Cs|apply Rs|apply Rx);conv=>whnf)
         rw[List.length_map]
         refine⟨_,rfl,fun hc=>?_,fun hc=>?_⟩
         · have hT:0<T.length:=(by have:=di (hc);first|omega | (simp only[Int.ofNat_eq_natCast] at this;omega))
           rw[if_pos ⟨h10,hT⟩]
           obtain⟨gt,rfl⟩:∃ gt,t=some gt:=by
             cases t with
             |none=>rw[ht rfl] at hT;simp at hT
             |some g=>exact⟨g,rfl⟩
           rw[qN] at O
           have hTg:∀ i,i<T.length->(T.map i64)[0+i*1]?=some (i64 (T.getD i 0)):=fun i hi=>by
             rw[Nat.zero_add,Nat.mul_one,List.getElem?_map,List.getElem?_eq_getElem hi,List.getD,List.getElem?_eq_getElem hi];rfl
           ((conv=>whnf);repeat(first|apply Cs|apply Rs|apply Rx);conv=>whnf);repeat((first|refine⟨_,(rfl:aQ _ _ _ _=some _),?_⟩|refine tp rfl ?_|refine⟨_,gG rfl rfl rfl (pE _ (by omega)),?_⟩);((conv=>whnf);repeat(first|apply Cs|apply Rs|apply Rx);conv=>whnf))
           rw[List.length_map]
           refine⟨_,rW (b:=T.length) rfl rfl hT,?_⟩;(conv=>whnf);repeat(first|apply Cs|apply Rs|apply Rx);conv=>whnf
           have hmod:=Nat.mod_lt a hT
           refine cU (s:=1) rfl rfl rfl rfl (by rw[List.length_map];exact hmod) ?_;(conv=>whnf);repeat(first|apply Cs|apply Rs|apply Rx);conv=>whnf
           refine⟨_,ae rfl (O.at (.head _)) rfl (hTg _ hmod),?_⟩;(conv=>whnf);repeat(first|apply Cs|apply Rs|apply Rx);conv=>whnf
           refine O.new (mB (vs:=[i64 (T.getD (a%T.length) 0)]) (s:=1) (z:=i64 0) rfl rfl (by kernel_rfl) (by kernel_rfl) rfl rfl rfl rfl (dT [T.getD (a%T.length) 0])) fun gi h O=>?_;(conv=>whnf);repeat(first|apply Cs|apply Rs|apply Rx);conv=>whnf
           refine O.new (ai (l:=[u8 0,.slice none 0 0,i64 0,i64 0]) rfl rfl rfl) fun gv h O=>?_;(conv=>whnf);repeat(first|apply Cs|apply Rs|apply Rx);conv=>whnf
           ((conv=>whnf);repeat(first|apply Cs|apply Rs|apply Rx);conv=>whnf);repeat(refine O.store (.head _) rfl rfl rfl rfl (lbE rfl) rfl rfl fun h O=>?_;((conv=>whnf);repeat(first|apply Cs|apply Rs|apply Rx);conv=>whnf))
           rw[List.length_map]
           refine⟨_,rfl,fun hc=>?_,fun hc=>?_⟩
           · have hT1:1<T.length:=(by have:=di (hc);first|omega | (simp only[Int.ofNat_eq_natCast] at this;omega))
             rw[if_pos hT1]
             have hmod2:=Nat.mod_lt (a%T.length+1) hT
             have hk63:a%T.length+1<2 ^ 63:=by omega
             ((conv=>whnf);repeat(first|apply Cs|apply Rs|apply Rx);conv=>whnf);repeat((first|refine⟨_,ae rfl (O.at (.head _)) rfl rfl,?_⟩|refine⟨_,AG (b:=1) rfl rfl (by omega),?_⟩|refine⟨.inr (.inr (ae rfl (O.at (.head _)) rfl rfl)),?_⟩);((conv=>whnf);repeat(first|apply Cs|apply Rs|apply Rx);conv=>whnf))
             rw[List.length_map]
             refine⟨_,rW (b:=T.length) rfl rfl hT,?_⟩;(conv=>whnf);repeat(first|apply Cs|apply Rs|apply Rx);conv=>whnf
             refine cU (s:=1) rfl rfl rfl rfl (hmod2) ?_;(conv=>whnf);repeat(first|apply Cs|apply Rs|apply Rx);conv=>whnf
             refine⟨_,ae rfl (O.at (.tail _ (.tail _ (.head _)))) rfl (hTg _ hmod2),?_⟩;(conv=>whnf);repeat(first|apply Cs|apply Rs|apply Rx);conv=>whnf
             refine⟨.inl rfl,?_⟩;(conv=>whnf);repeat(first|apply Cs|apply Rs|apply Rx);conv=>whnf
             refine O.bB (mB (vs:=[i64 (T.getD ((a%T.length+1)%T.length) 0)]) (s:=1) (z:=i64 0) rfl rfl (by kernel_rfl) (by kernel_rfl) rfl rfl rfl rfl (dT [T.getD ((a%T.length+1)%T.length) 0])) fun gy h O=>?_;(conv=>whnf);repeat(first|apply Cs|apply Rs|apply Rx);conv=>whnf
             refine O.tA (s:=1) (b:=8) (m:=1) (n:=1) (new:=[i64 (T.getD ((a%T.length+1)%T.length) 0)]) (O.at (.tail _ (.tail _ (.head _)))) rfl rfl rfl rfl rfl rfl rfl rfl rfl rfl (oM (O.at (.head _)) rfl) rfl (by decide) rfl (by decide) (by decide) rfl fun gj h O=>?_;(conv=>whnf);repeat(first|apply Cs|apply Rs|apply Rx);conv=>whnf
             ((conv=>whnf);repeat(first|apply Cs|apply Rs|apply Rx);conv=>whnf);repeat((first|refine⟨_,bg rfl (O.at (.tail _ (.tail _ (.head _)))) rfl rfl (lbE rfl) rfl,?_⟩|refine⟨.inl rfl,?_⟩|refine O.store (.tail _ (.tail _ (.head _))) rfl rfl rfl rfl (lbE rfl) rfl rfl fun h O=>?_|refine O.store (.tail _ (.tail _ (.tail _ (.tail _ (.tail _ (.head _)))))) rfl rfl rfl rfl (lbE rfl) rfl rfl fun h O=>?_);((conv=>whnf);repeat(first|apply Cs|apply Rs|apply Rx);conv=>whnf))
             refine⟨_,aD rfl rfl (O.at (.tail _ (.tail _ (.tail _ (.tail _ (.tail _ (.head _))))))) rfl rfl (lbE rfl) rfl,?_⟩;(conv=>whnf);repeat(first|apply Cs|apply Rs|apply Rx);conv=>whnf
             refine⟨O.ext,fun h2 F=>VLe.agg (LLe.cons (VLe.refl _ _) (LLe.cons (O.flat (es:=[T.getD (a%T.length) 0,T.getD ((a%T.length+1)%T.length) 0].map i64) F (Nat.le_refl _) (.head _) rfl rfl (dT _)) (LLe.refl _ _)))⟩
           · have hT1:¬ 1<T.length:=(by have:=dj (hc);first|omega | (simp only[Int.ofNat_eq_natCast] at this;omega))
             rw[if_neg hT1]
             ((conv=>whnf);repeat(first|apply Cs|apply Rs|apply Rx);conv=>whnf);repeat((first|refine⟨_,bg rfl (O.at (.head _)) rfl rfl (lbE rfl) rfl,?_⟩|refine O.store (.tail _ (.tail _ (.tail _ (.head _)))) rfl rfl rfl rfl (lbE rfl) rfl rfl fun h O=>?_);((conv=>whnf);repeat(first|apply Cs|apply Rs|apply Rx);conv=>whnf))
             refine⟨_,aD rfl rfl (O.at (.tail _ (.tail _ (.tail _ (.head _))))) rfl rfl (lbE rfl) rfl,?_⟩;(conv=>whnf);repeat(first|apply Cs|apply Rs|apply Rx);conv=>whnf
             refine⟨O.ext,fun h2 F=>VLe.agg (LLe.cons (VLe.refl _ _) (LLe.cons (O.flat (es:=[T.getD (a%T.length) 0].map i64) F (Nat.le_refl _) (.tail _ (.head _)) rfl rfl (dT _)) (LLe.refl _ _)))⟩
         · have hno:¬ (10<kk/\0<T.length):=fun h=>absurd h.2 (by have:=dj (hc);first|omega | (simp only[Int.ofNat_eq_natCast] at this;omega))
           rw[if_neg hno]
           ((conv=>whnf);repeat(first|apply Cs|apply Rs|apply Rx);conv=>whnf);repeat(refine⟨_,(rfl:aQ _ _ _ _=some _),?_⟩;((conv=>whnf);repeat(first|apply Cs|apply Rs|apply Rx);conv=>whnf))
           refine⟨_,rfl,fun hc=>?_,fun hc=>?_⟩
           · have h240:240<kind:=(by have:=di (hc);first|omega | (simp only[Int.ofNat_eq_natCast] at this;omega))
             rw[if_pos h240]
             ((conv=>whnf);repeat(first|apply Cs|apply Rs|apply Rx);conv=>whnf);repeat((first|refine⟨_,(rfl:aQ _ _ _ _=some _),?_⟩|refine tp rfl ?_|refine⟨_,rW (b:=2) rfl rfl (by decide),?_⟩);((conv=>whnf);repeat(first|apply Cs|apply Rs|apply Rx);conv=>whnf))
             refine⟨_,pV (a:=1) rfl rfl (by omega),?_⟩;(conv=>whnf);repeat(first|apply Cs|apply Rs|apply Rx);conv=>whnf
             ((conv=>whnf);repeat(first|apply Cs|apply Rs|apply Rx);conv=>whnf);repeat(refine O.store (.tail _ (.head _)) rfl rfl rfl rfl (lbE rfl) rfl rfl fun h O=>?_;((conv=>whnf);repeat(first|apply Cs|apply Rs|apply Rx);conv=>whnf))
             refine⟨_,aD rfl rfl (O.at (.tail _ (.head _))) rfl rfl (lbE rfl) rfl,?_⟩;(conv=>whnf);repeat(first|apply Cs|apply Rs|apply Rx);conv=>whnf
             exact⟨O.ext,fun h2 F=>VLe.agg (LLe.cons (VLe.refl _ _) (LLe.cons (VLe.nil _ _) (LLe.refl _ _)))⟩
           · have h240:¬ 240<kind:=(by have:=dj (hc);first|omega | (simp only[Int.ofNat_eq_natCast] at this;omega))
             rw[if_neg h240]
             ((conv=>whnf);repeat(first|apply Cs|apply Rs|apply Rx);conv=>whnf);repeat((first|refine O.store (.tail _ (.head _)) rfl rfl rfl rfl (lbE rfl) rfl rfl fun h O=>?_|refine NewG.frz rfl ?_);((conv=>whnf);repeat(first|apply Cs|apply Rs|apply Rx);conv=>whnf))
             refine⟨_,aD rfl rfl (O.at (.tail _ (.head _))) rfl rfl (lbE rfl) rfl,?_⟩;(conv=>whnf);repeat(first|apply Cs|apply Rs|apply Rx);conv=>whnf
             exact O.ret
       · have hno:¬ (10<kk/\0<T.length):=fun h=>absurd h.1 (by have:=dj (hc);first|omega | (simp only[Int.ofNat_eq_natCast] at this;omega))
         rw[hc]
         ((conv=>whnf);repeat(first|apply Cs|apply Rs|apply Rx);conv=>whnf)
         refine⟨false,rfl,(fun hc=>nomatch hc),fun _=>?_⟩;(conv=>whnf);repeat(first|apply Cs|apply Rs|apply Rx);conv=>whnf
         rw[if_neg hno]
         ((conv=>whnf);repeat(first|apply Cs|apply Rs|apply Rx);conv=>whnf);repeat(refine⟨_,(rfl:aQ _ _ _ _=some _),?_⟩;((conv=>whnf);repeat(first|apply Cs|apply Rs|apply Rx);conv=>whnf))
         refine⟨_,rfl,fun hc=>?_,fun hc=>?_⟩
         · have h240:240<kind:=(by have:=di (hc);first|omega | (simp only[Int.ofNat_eq_natCast] at this;omega))
           rw[if_pos h240]
           ((conv=>whnf);repeat(first|apply Cs|apply Rs|apply Rx);conv=>whnf);repeat((first|refine⟨_,(rfl:aQ _ _ _ _=some _),?_⟩|refine tp rfl ?_|refine⟨_,rW (b:=2) rfl rfl (by decide),?_⟩);((conv=>whnf);repeat(first|apply Cs|apply Rs|apply Rx);conv=>whnf))
           refine⟨_,pV (a:=1) rfl rfl (by omega),?_⟩;(conv=>whnf);repeat(first|apply Cs|apply Rs|apply Rx);conv=>whnf
           ((conv=>whnf);repeat(first|apply Cs|apply Rs|apply Rx);conv=>whnf);repeat(refine O.store (.tail _ (.head _)) rfl rfl rfl rfl (lbE rfl) rfl rfl fun h O=>?_;((conv=>whnf);repeat(first|apply Cs|apply Rs|apply Rx);conv=>whnf))
           refine⟨_,aD rfl rfl (O.at (.tail _ (.head _))) rfl rfl (lbE rfl) rfl,?_⟩;(conv=>whnf);repeat(first|apply Cs|apply Rs|apply Rx);conv=>whnf
           exact⟨O.ext,fun h2 F=>VLe.agg (LLe.cons (VLe.refl _ _) (LLe.cons (VLe.nil _ _) (LLe.refl _ _)))⟩
         · have h240:¬ 240<kind:=(by have:=dj (hc);first|omega | (simp only[Int.ofNat_eq_natCast] at this;omega))
           rw[if_neg h240]
           ((conv=>whnf);repeat(first|apply Cs|apply Rs|apply Rx);conv=>whnf);repeat((first|refine O.store (.tail _ (.head _)) rfl rfl rfl rfl (lbE rfl) rfl rfl fun h O=>?_|refine NewG.frz rfl ?_);((conv=>whnf);repeat(first|apply Cs|apply Rs|apply Rx);conv=>whnf))
           refine⟨_,aD rfl rfl (O.at (.tail _ (.head _))) rfl rfl (lbE rfl) rfl,?_⟩;(conv=>whnf);repeat(first|apply Cs|apply Rs|apply Rx);conv=>whnf
           exact O.ret
   | false =>
     ((conv=>whnf);repeat(first|apply Cs|apply Rs|apply Rx);conv=>whnf);repeat((first|refine⟨false,rfl,(fun hc=>nomatch hc),fun _=>?_⟩|refine⟨_,(rfl:aQ _ _ _ _=some _),?_⟩|refine⟨_,gG rfl rfl rfl (pE _ (by omega)),?_⟩|refine⟨_,rW (b:=9) rfl rfl (by decide),?_⟩);((conv=>whnf);repeat(first|apply Cs|apply Rs|apply Rx);conv=>whnf))
     simp only[Bool.false_eq_true,if_false]
     generalize hkk:kind%9=kk
     have hk13:kk<9:=by omega
     refine⟨_,rfl,fun hc=>?_,fun hc=>?_⟩
     · have h6:kk<6:=(by have:=di (hc);first|omega | (simp only[Int.ofNat_eq_natCast] at this;omega))
       rw[if_pos h6]
       ((conv=>whnf);repeat(first|apply Cs|apply Rs|apply Rx);conv=>whnf)
       refine⟨_,gG rfl rfl rfl (hU8 kk (by omega)),?_⟩;(conv=>whnf);repeat(first|apply Cs|apply Rs|apply Rx);conv=>whnf
       refine⟨_,pV (a:=5) rfl rfl (by omega),?_⟩;(conv=>whnf);repeat(first|apply Cs|apply Rs|apply Rx);conv=>whnf
       refine O.new (mB (vs:=[i64 (a%ks.length),i64 (b%ks.length)]) (s:=1) (z:=i64 0) rfl rfl (by kernel_rfl) (by kernel_rfl) rfl rfl rfl rfl (dT [a%ks.length,b%ks.length])) fun gi h O=>?_;(conv=>whnf);repeat(first|apply Cs|apply Rs|apply Rx);conv=>whnf
       refine O.new (ai (l:=[u8 0,.slice none 0 0,i64 0,i64 0]) rfl rfl rfl) fun gv h O=>?_;(conv=>whnf);repeat(first|apply Cs|apply Rs|apply Rx);conv=>whnf
       ((conv=>whnf);repeat(first|apply Cs|apply Rs|apply Rx);conv=>whnf);repeat((first|refine⟨_,(rfl:aQ _ _ _ _=some _),?_⟩|refine O.store (.head _) rfl rfl rfl rfl (lbE rfl) rfl rfl fun h O=>?_);((conv=>whnf);repeat(first|apply Cs|apply Rs|apply Rx);conv=>whnf))
       refine⟨_,rfl,fun hc=>?_,fun hc=>?_⟩
       · have h128:128<=kind:=by
           have hc:(!ltI (Int.ofNat kind) 128)=true:=hc
           rw[dB] at hc
           simp at hc
           omega
         rw[if_pos h128]
         ((conv=>whnf);repeat(first|apply Cs|apply Rs|apply Rx);conv=>whnf);repeat(refine⟨_,ae rfl (O.at (.head _)) rfl rfl,?_⟩;((conv=>whnf);repeat(first|apply Cs|apply Rs|apply Rx);conv=>whnf))
         refine NewG.frz rfl ?_;(conv=>whnf);repeat(first|apply Cs|apply Rs|apply Rx);conv=>whnf
         refine O.tA (s:=1) (b:=8) (m:=1) (n:=2) (new:=[i64 (d%ks.length)]) (O.at (.tail _ (.head _))) rfl rfl rfl rfl rfl rfl rfl rfl rfl rfl rfl rfl (by decide) rfl (by decide) (by decide) rfl fun gj h O=>?_;(conv=>whnf);repeat(first|apply Cs|apply Rs|apply Rx);conv=>whnf
         ((conv=>whnf);repeat(first|apply Cs|apply Rs|apply Rx);conv=>whnf);repeat((first|refine⟨_,bg rfl (O.at (.tail _ (.head _))) rfl rfl (lbE rfl) rfl,?_⟩|refine O.store (.tail _ (.head _)) rfl rfl rfl rfl (lbE rfl) rfl rfl fun h O=>?_|refine O.store (.tail _ (.tail _ (.tail _ (.tail _ (.head _))))) rfl rfl rfl rfl (lbE rfl) rfl rfl fun h O=>?_);((conv=>whnf);repeat(first|apply Cs|apply Rs|apply Rx);conv=>whnf))
         refine⟨_,aD rfl rfl (O.at (.tail _ (.tail _ (.tail _ (.tail _ (.head _)))))) rfl rfl (lbE rfl) rfl,?_⟩;(conv=>whnf);repeat(first|apply Cs|apply Rs|apply Rx);conv=>whnf
         refine⟨O.ext,fun h2 F=>VLe.agg (LLe.cons (VLe.refl _ _) (LLe.cons (O.flat (es:=[a%ks.length,b%ks.length,d%ks.length].map i64) F (Nat.le_refl _) (.head _) rfl rfl (dT _)) (LLe.refl _ _)))⟩
       · have h128:¬ 128<=kind:=by
           have hc:(!ltI (Int.ofNat kind) 128)=false:=hc
           rw[dB] at hc
           simp at hc
           omega
         rw[if_neg h128]
         ((conv=>whnf);repeat(first|apply Cs|apply Rs|apply Rx);conv=>whnf);repeat((first|refine⟨_,bg rfl (O.at (.head _)) rfl rfl (lbE rfl) rfl,?_⟩|refine O.store (.tail _ (.tail _ (.tail _ (.head _)))) rfl rfl rfl rfl (lbE rfl) rfl rfl fun h O=>?_);((conv=>whnf);repeat(first|apply Cs|apply Rs|apply Rx);conv=>whnf))
         refine⟨_,aD rfl rfl (O.at (.tail _ (.tail _ (.tail _ (.head _))))) rfl rfl (lbE rfl) rfl,?_⟩;(conv=>whnf);repeat(first|apply Cs|apply Rs|apply Rx);conv=>whnf
         refine⟨O.ext,fun h2 F=>VLe.agg (LLe.cons (VLe.refl _ _) (LLe.cons (O.flat (es:=[a%ks.length,b%ks.length].map i64) F (Nat.le_refl _) (.tail _ (.head _)) rfl rfl (dT _)) (LLe.refl _ _)))⟩
     · have h6:¬ kk<6:=(by have:=dj (hc);first|omega | (simp only[Int.ofNat_eq_natCast] at this;omega))
       have eqN:∀ c:Nat,(Int.ofNat kk==(Int.ofNat c))=decide (kk=c):=fun c=>by
         rw[Bool.eq_iff_iff];simp only[Int.ofNat_eq_natCast,beq_iff_eq,decide_eq_true_eq];omega
       rw[if_neg h6]
       ((conv=>whnf);repeat(first|apply Cs|apply Rs|apply Rx);conv=>whnf)
       refine⟨_,rfl,fun hc=>?_,fun hc=>?_⟩
       · rw[if_pos (of_decide_eq_true ((eqN 6).symm.trans hc))]
         ((conv=>whnf);repeat(first|apply Cs|apply Rs|apply Rx);conv=>whnf);repeat((first|refine O.store (.tail _ (.head _)) rfl rfl rfl rfl (lbE rfl) rfl rfl fun h O=>?_|refine NewG.frz rfl ?_);((conv=>whnf);repeat(first|apply Cs|apply Rs|apply Rx);conv=>whnf))
         refine⟨_,aD rfl rfl (O.at (.tail _ (.head _))) rfl rfl (lbE rfl) rfl,?_⟩;(conv=>whnf);repeat(first|apply Cs|apply Rs|apply Rx);conv=>whnf
         exact O.ret
       rw[if_neg (of_decide_eq_false ((eqN 6).symm.trans hc))]
       ((conv=>whnf);repeat(first|apply Cs|apply Rs|apply Rx);conv=>whnf)
       refine⟨_,rfl,fun hc=>?_,fun hc=>?_⟩
       · rw[if_pos (of_decide_eq_true ((eqN 7).symm.trans hc))]
         ((conv=>whnf);repeat(first|apply Cs|apply Rs|apply Rx);conv=>whnf);repeat((first|refine O.store (.tail _ (.head _)) rfl rfl rfl rfl (lbE rfl) rfl rfl fun h O=>?_|refine NewG.frz rfl ?_);((conv=>whnf);repeat(first|apply Cs|apply Rs|apply Rx);conv=>whnf))
         refine⟨_,aD rfl rfl (O.at (.tail _ (.head _))) rfl rfl (lbE rfl) rfl,?_⟩;(conv=>whnf);repeat(first|apply Cs|apply Rs|apply Rx);conv=>whnf
         exact O.ret
       rw[if_neg (of_decide_eq_false ((eqN 7).symm.trans hc))]
       ((conv=>whnf);repeat(first|apply Cs|apply Rs|apply Rx);conv=>whnf)
       refine⟨_,rfl,fun hc=>?_,fun hc=>?_⟩
       · rw[if_pos (.inl (of_decide_eq_true ((eqN 9).symm.trans hc)))]
         rw[hc]
         ((conv=>whnf);repeat(first|apply Cs|apply Rs|apply Rx);conv=>whnf);repeat((first|refine⟨true,rfl,fun _=>?_,(fun hc=>nomatch hc)⟩|refine O.store (.tail _ (.head _)) rfl rfl rfl rfl (lbE rfl) rfl rfl fun h O=>?_|refine NewG.frz rfl ?_);((conv=>whnf);repeat(first|apply Cs|apply Rs|apply Rx);conv=>whnf))
         refine⟨_,aD rfl rfl (O.at (.tail _ (.head _))) rfl rfl (lbE rfl) rfl,?_⟩;(conv=>whnf);repeat(first|apply Cs|apply Rs|apply Rx);conv=>whnf
         exact O.ret
       have h9:¬ kk=9:=of_decide_eq_false ((eqN 9).symm.trans hc)
       rw[hc]
       ((conv=>whnf);repeat(first|apply Cs|apply Rs|apply Rx);conv=>whnf)
       refine⟨_,rfl,fun hc=>?_,fun hc=>?_⟩
       · rw[if_pos (.inr (of_decide_eq_true ((eqN 10).symm.trans hc)))]
         ((conv=>whnf);repeat(first|apply Cs|apply Rs|apply Rx);conv=>whnf);repeat((first|refine O.store (.tail _ (.head _)) rfl rfl rfl rfl (lbE rfl) rfl rfl fun h O=>?_|refine NewG.frz rfl ?_);((conv=>whnf);repeat(first|apply Cs|apply Rs|apply Rx);conv=>whnf))
         refine⟨_,aD rfl rfl (O.at (.tail _ (.head _))) rfl rfl (lbE rfl) rfl,?_⟩;(conv=>whnf);repeat(first|apply Cs|apply Rs|apply Rx);conv=>whnf
         exact O.ret
       rw[if_neg (fun h=>h.elim h9 (of_decide_eq_false ((eqN 10).symm.trans hc)))]
       ((conv=>whnf);repeat(first|apply Cs|apply Rs|apply Rx);conv=>whnf)
       refine⟨_,rfl,fun hc=>?_,fun hc=>?_⟩
       · have h10:10<kk:=(by have:=di (hc);first|omega | (simp only[Int.ofNat_eq_natCast] at this;omega))
         exact absurd h10 (by omega)
       · have hno:¬ (10<kk/\0<T.length):=fun h=>absurd h.1 (by have:=dj (hc);first|omega | (simp only[Int.ofNat_eq_natCast] at this;omega))
         rw[hc]
         ((conv=>whnf);repeat(first|apply Cs|apply Rs|apply Rx);conv=>whnf)
         refine⟨false,rfl,(fun hc=>nomatch hc),fun _=>?_⟩;(conv=>whnf);repeat(first|apply Cs|apply Rs|apply Rx);conv=>whnf
         rw[if_neg hno]
         ((conv=>whnf);repeat(first|apply Cs|apply Rs|apply Rx);conv=>whnf);repeat(refine⟨_,(rfl:aQ _ _ _ _=some _),?_⟩;((conv=>whnf);repeat(first|apply Cs|apply Rs|apply Rx);conv=>whnf))
         refine⟨_,rfl,fun hc=>?_,fun hc=>?_⟩
         · have h240:240<kind:=(by have:=di (hc);first|omega | (simp only[Int.ofNat_eq_natCast] at this;omega))
           rw[if_pos h240]
           ((conv=>whnf);repeat(first|apply Cs|apply Rs|apply Rx);conv=>whnf);repeat((first|refine⟨_,(rfl:aQ _ _ _ _=some _),?_⟩|refine tp rfl ?_|refine⟨_,rW (b:=2) rfl rfl (by decide),?_⟩);((conv=>whnf);repeat(first|apply Cs|apply Rs|apply Rx);conv=>whnf))
           refine⟨_,pV (a:=1) rfl rfl (by omega),?_⟩;(conv=>whnf);repeat(first|apply Cs|apply Rs|apply Rx);conv=>whnf
           ((conv=>whnf);repeat(first|apply Cs|apply Rs|apply Rx);conv=>whnf);repeat(refine O.store (.tail _ (.head _)) rfl rfl rfl rfl (lbE rfl) rfl rfl fun h O=>?_;((conv=>whnf);repeat(first|apply Cs|apply Rs|apply Rx);conv=>whnf))
           refine⟨_,aD rfl rfl (O.at (.tail _ (.head _))) rfl rfl (lbE rfl) rfl,?_⟩;(conv=>whnf);repeat(first|apply Cs|apply Rs|apply Rx);conv=>whnf
           exact⟨O.ext,fun h2 F=>VLe.agg (LLe.cons (VLe.refl _ _) (LLe.cons (VLe.nil _ _) (LLe.refl _ _)))⟩
         · have h240:¬ 240<kind:=(by have:=dj (hc);first|omega | (simp only[Int.ofNat_eq_natCast] at this;omega))
           rw[if_neg h240]
           ((conv=>whnf);repeat(first|apply Cs|apply Rs|apply Rx);conv=>whnf);repeat((first|refine O.store (.tail _ (.head _)) rfl rfl rfl rfl (lbE rfl) rfl rfl fun h O=>?_|refine NewG.frz rfl ?_);((conv=>whnf);repeat(first|apply Cs|apply Rs|apply Rx);conv=>whnf))
           refine⟨_,aD rfl rfl (O.at (.tail _ (.head _))) rfl rfl (lbE rfl) rfl,?_⟩;(conv=>whnf);repeat(first|apply Cs|apply Rs|apply Rx);conv=>whnf
           exact O.ret
def jB (i:Nat):ByteArray:=⟨#[110,UInt8.ofNat (48+i/10),UInt8.ofNat (48+i%10)]⟩
theorem yB:([0,1,2,3,4,5,6,7,8,9,10,11,12,13,14,15].all fun i=>match vx bare 92 #[.int .i64 (Int.ofNat i)] with
 |some (.string s)=>decide (s=jB i)
 |_=>false)=true:=by kernel_rfl
theorem A9 {i:Nat} (hi:i<16):FnV Tryz.prog NG vars 92 #[i64 i] (.string (jB i)):=by
 refine Cf rfl fun h _=>?_
 have hm:i∈[0,1,2,3,4,5,6,7,8,9,10,11,12,13,14,15]:=by
  have:i=0\/i=1\/i=2\/i=3\/i=4\/i=5\/i=6\/i=7\/i=8\/i=9\/i=10\/i=11\/i=12\/i=13\/i=14\/i=15:=by omega
  simpa using this
 have:=List.all_eq_true.1 yB i hm
 split at this
 ·rename_i s hs
  rw[of_decide_eq_true this] at hs
  exact Ay hs (by kernel_rfl) rfl
 ·cases this
def gp:Node:=⟨0,[],0,0⟩
def nA (d:Nat):Node:=⟨14,[d],0,0⟩
def xJ (b:Nat):Node:=⟨15,[],0,b⟩
def fB (inp dffs:Nat) (mem:Bool):List Node:=List.replicate (inp%4+1) gp++List.replicate (dffs%3) (nA 0)++(if mem then [xJ 0,xJ 1] else [])
def dW (bus:Bool) (gs:List GData) (base:List Node):Nat->List Node
 |0=>base
 |i+1=>match gs[i]? with
  |some g=>dW bus gs base i++[gR bus g ((dW bus gs base i).map Node.kind)]
  |none=>dW bus gs base i
def cp (x:CData):List Node:=dW x.bus x.gates (fB x.inp x.dffs x.mem) (min x.gates.length 8)
def lJ (first:Nat) (d:Nat->Nat):Nat->List Node->List Node
 |0,ns=>ns
 |i+1,ns=>(lJ first d i ns).set (first+i) (nA (d i))
def mc (x:CData) (n j:Nat):Nat:=(if j=0 then x.data0 else x.data1)%n
def gF (x:CData):Circ :=
 let n:=(cp x).length
 ⟨lJ (x.inp%4+1) (mc x n) (x.dffs%3) (cp x),(List.range n).map jB,if x.mem then [⟨[x.port0%n],[x.port1%n,x.port2%n],x.port3%n⟩] else [],(x.outs.take 3).map (· % n)++[n-1]⟩
theorem tX:∀ (l:List Node),∀ e∈l.map al,(cl e).length=4:=by
 intro l e m
 obtain⟨a,_,rfl⟩:=List.mem_map.1 m
 rfl
theorem yF {l:List Node}{i:Nat} (hi:i<l.length):(flatC (l.map al))[0+i*4]?=some (n8 ((l.map Node.kind).getD i 0)):=by
 have hu:(l.map al)[i]?=some (al l[i]):=by rw[List.getElem?_map,List.getElem?_eq_getElem hi];rfl
 have:=rC (tX l) hu (i:=0) (by decide)
 rw[Nat.add_zero] at this
 rw[Nat.zero_add,this,List.getD,List.getElem?_map,List.getElem?_eq_getElem hi]
 rfl
theorem fM (inp dffs:Nat) (mem:Bool):(fB inp dffs mem).length=inp%4+1+dffs%3+(if mem then 2 else 0):=by
 unfold fB
 cases mem <;> simp <;> omega
theorem eF (bus:Bool) (gs:List GData) (base:List Node):∀ i,i<=gs.length->(dW bus gs base i).length=base.length+i
 |0,_=>rfl
 |i+1,h=>by
  have hg:gs[i]?=some gs[i]:=List.getElem?_eq_getElem (by omega)
  simp only[dW,hg,List.length_append,eF bus gs base i (by omega),List.length_singleton]
  omega
theorem kx {bus:Bool}{gs:List GData}{base:List Node}{i:Nat}{g:GData} (hg:gs[i]?=some g):dW bus gs base (i+1)=dW bus gs base i++[gR bus g ((dW bus gs base i).map Node.kind)]:=by
 simp only[dW,hg]
theorem mC (bus:Bool) (gs:List GData) (base:List Node) {j:Nat} (hj:j<base.length):∀ i,i<=gs.length->(dW bus gs base i)[j]?=base[j]?
 |0,_=>rfl
 |i+1,h=>by
  have hg:gs[i]?=some gs[i]:=List.getElem?_eq_getElem (by omega)
  rw[kx hg,List.getElem?_append_left (by rw[eF _ _ _ _ (by omega)];omega)]
  exact mC bus gs base hj i (by omega)
theorem ja (x:CData):(cp x).length=x.inp%4+1+x.dffs%3+(if x.mem then 2 else 0)+min x.gates.length 8:=by
 unfold cp
 rw[eF _ _ _ _ (Nat.min_le_left _ _),fM]
theorem xq (x:CData):(cp x).length<=16:=by
 rw[ja]
 have h1:=Nat.mod_lt x.inp (show 0<4 by decide)
 have h2:=Nat.mod_lt x.dffs (show 0<3 by decide)
 split <;> omega
theorem xU {inp dffs:Nat}{mem:Bool}{i:Nat} (hi:i<dffs%3):(fB inp dffs mem)[inp%4+1+i]?=some (nA 0):=by
 unfold fB
 rw[List.append_assoc,List.getElem?_append_right (by simp),List.length_replicate,List.getElem?_append_left (by simp;omega),List.getElem?_replicate,if_pos (by omega)]
theorem uh {x:CData}{i:Nat} (hi:i<x.dffs%3):(cp x)[x.inp%4+1+i]?=some (nA 0):=by
 unfold cp
 rw[mC _ _ _ (by rw[fM];split <;> omega) _ (Nat.min_le_left _ _)]
 exact xU hi
inductive PL (h:Heap):List Value->List Value->Prop
 |nil:PL h [] []
 |cons {a b:Value} {l m:List Value}:LLe h (cl a) (cl b)->PL h l m->PL h (a::l) (b::m)
theorem PL.refl (h:Heap):∀ l:List Value,PL h l l
 |[]=>.nil
 |_a::l=>.cons (LLe.refl h _) (PL.refl h l)
theorem PL.set {h:Heap}{l m:List Value} (p:PL h l m) {a b:Value} (ab:LLe h (cl a) (cl b)):∀ i,PL h (l.set i a) (m.set i b):=by
 induction p with
 |nil=>intro i;exact .nil
 |cons e _ ih =>
  intro i
  cases i with
  |zero=>exact .cons ab ‹_›
  |succ i=>exact .cons e (ih i)
theorem LLe.app {h:Heap}:∀ {a b:List Value}{c d:List Value},LLe h a b->LLe h c d->LLe h (a++c) (b++d)
 |[],[],_,_,_,q=>q
 |[],_::_,_,_,p,_=>by have:=p.1;simp at this
 |_::_,[],_,_,p,_=>by have:=p.1;simp at this
 |x::a,y::b,c,d,p,q=>by
  have h0:=p.get (i:=0) (x:=x) (y:=y) rfl rfl
  have h1:LLe h a b:=⟨by have:=p.1;simpa using this,fun i=>by have:=p.2 (i+1);simpa using this⟩
  exact LLe.cons h0 (LLe.app h1 q)
theorem PL.flat {h:Heap}{l m:List Value} (p:PL h l m):LLe h (flatC l) (flatC m):=by
 induction p with
 |nil=>exact LLe.refl _ _
 |cons e _ ih=>rw[dR,dR];exact LLe.app e ih
theorem Ap {x:CData}{g:GData} (hg:GOk g) {N:List Node} (hn:0<N.length) (hn2:N.length<=1000) {gn:Nat}{sp:Option Nat}{cap:Nat}{ro:Bool}{h0:Heap} (hB:HasB vars h0) (hgn:h0.get gn=some (.cells (flatC (N.map al)) ro)) :
  CallD Tryz.prog NG 91 #[bD x,rZ g,.slice (some ⟨gn,0,sp⟩) (N.map al).length cap] h0 (al (gR x.bus g (N.map Node.kind))) h0:=by
 have:=zf (x:=x) hg (ks:=N.map Node.kind) (by rw[List.length_map];exact hn) (by rw[List.length_map];exact hn2) (sp:=sp) (cap:=cap) hB hgn fun i hi=>yF (by rw[List.length_map] at hi;exact hi)
 rw[List.length_map] at this
 rw[List.length_map]
 exact this
def gx (i:Nat) (K:ByteArray->Prop):Prop:=i<16/\K (jB i)
theorem kn {i:Nat}{K:ByteArray->Prop} (hm:gx i K) {h0:Heap} (hB:HasB vars h0):∃ r,K r/\CallD Tryz.prog NG 92 ⟨[i64 i]⟩ h0 (Value.string r) h0:=FnV.walk (A9 hm.1) hm.2 hB
structure Asg where
 net:Nat
 value:Nat
structure U2 where
 a:Nat
 b:Nat
def jh (c:Circ) (i x:Nat):List Ln:=(c.nodes.zipIdx.take i).flatMap fun p=>bC x p.2 p.1.ins
theorem tB (x i:Nat) (l:List Nat) (a:Nat):bC x i (l++[a])=bC x i l++(if a=x then [⟨i,l.length⟩] else []):=by
 unfold bC
 rw[List.zipIdx_append,List.filter_append,List.map_append]
 congr 1
 by_cases c:a=x
 ·simp[c]
 ·simp[c]
theorem oP {c:Circ}{i x:Nat}{y:Node} (hy:c.nodes[i]?=some y):jh c (i+1) x=jh c i x++bC x i y.ins:=by
 have h:c.nodes.zipIdx[i]?=some (y,i):=by rw[List.getElem?_zipIdx,hy];simp
 unfold jh
 obtain⟨h1,h2⟩:=List.getElem?_eq_some_iff.1 h
 rw[List.take_succ_eq_append_getElem h1,h2,List.flatMap_append]
 simp
theorem pf (x i:Nat) (l:List Nat):(bC x i l).length<=l.length:=by
 unfold bC
 rw[List.length_map]
 refine Nat.le_trans (List.length_filter_le _ _) ?_
 simp
structure FanPre (c:Circ):Prop where
 len:c.nodes.length<=16
 ins:∀ (i:Nat) (x:Node),c.nodes[i]?=some x->(∀ k∈x.ins,k<c.nodes.length)/\x.ins.length<=16
theorem rl {c:Circ} (g:FanPre c) (x:Nat):∀ i,i<=c.nodes.length->(jh c i x).length<=i*16
 |0,_=>by simp[jh]
 |i+1,h=>by
  obtain⟨y,hy⟩:=au (l:=c.nodes) (i:=i) h
  rw[oP hy,List.length_append]
  have:=rl g x i (by omega)
  have:=pf x i y.ins
  have:=(g.ins i y hy).2
  omega
def eE (c:Circ) (i t:Nat) (ins:List Nat):List (List Ln):=(List.range c.nodes.length).map fun x=>jh c i x++bC x i (ins.take t)
theorem mw {c:Circ}{i t x:Nat}{ins:List Nat} (hx:x<c.nodes.length):(eE c i t ins)[x]?=some (jh c i x++bC x i (ins.take t)):=by
 unfold eE
 rw[List.getElem?_map,List.getElem?_range hx]
 rfl
theorem vE {c:Circ}{i t y:Nat}{ins:List Nat} (hy:ins[t]?=some y):(eE c i t ins).set y (jh c i y++bC y i (ins.take t)++[⟨i,t⟩])=eE c i (t+1) ins:=by
 have ht:=ak hy
 obtain⟨h1,h2⟩:=List.getElem?_eq_some_iff.1 hy
 have hs:∀ x,bC x i (ins.take (t+1))=bC x i (ins.take t)++(if y=x then [⟨i,t⟩] else []):=fun x=>by
  rw[List.take_succ_eq_append_getElem h1,h2,tB,List.length_take,Nat.min_eq_left (Nat.le_of_lt ht)]
 apply List.ext_getElem?
 intro x
 rw[List.getElem?_set]
 have hl:(eE c i t ins).length=c.nodes.length:=by unfold eE;simp
 by_cases c1:x<c.nodes.length
 ·rw[mw c1,mw c1,hs x]
  by_cases e:y=x
  ·subst e
   rw[if_pos rfl,if_pos (by omega),if_pos rfl,List.append_assoc]
  ·rw[if_neg e,if_neg e,List.append_nil]
 ·have hn:∀ k,(eE c i k ins)[x]?=none:=fun k=>by
   refine List.getElem?_eq_none ?_
   unfold eE;simp;omega
  rw[hn,hn]
  by_cases e:y=x
  ·rw[if_pos e,if_neg (by omega)]
  ·rw[if_neg e]
theorem rN {c:Circ}{K:List (List Ln)->Prop} (g:FanPre c) (h:K (nj c)):gr c K:=by
 have hlen:=g.len
 unfold gr
 refine⟨by omega,by omega,?_⟩
 refine ay (fun s=>s.2<=c.nodes.length/\s.1=eE c s.2 0 []) (fun s=>c.nodes.length-s.2) (fun a=>a=nj c) ?_ ?_ ?_
 ·rintro k ⟨R,i⟩ nx ⟨hi,hR⟩ hnx hk
  dsimp only at hi hR
  subst hR
  refine⟨fun q=>?_,fun q=>?_⟩
  ·have q:=aJ.1 q
   try dsimp only at q
   obtain⟨y,hy⟩:=au q
   obtain⟨g1,g2⟩:=g.ins i y hy
   refine dD ⟨y,hy,?_⟩
   refine bn (fun s=>s.2<=y.ins.length/\s.1=eE c i s.2 y.ins) (fun s=>y.ins.length-s.2) ?_ ⟨Nat.zero_le _,by unfold eE;simp⟩
   rintro⟨R1,t⟩ nx1 ⟨ht,hR⟩ hnx1
   dsimp only at ht hR
   subst hR
   refine⟨fun q1=>?_,fun q1=>?_⟩
   ·have q1:=aJ.1 q1
    try dsimp only at q1
    obtain⟨z,hz⟩:=au q1
    have hzn:=g1 z (List.mem_of_getElem? hz)
    have hb:=rl g z i hi
    have hb2:=pf z i (y.ins.take t)
    have hb3:(y.ins.take t).length<=16:=by rw[List.length_take];omega
    refine dD ⟨z,hz,fun e=>absurd (aJ.1 e) (Nat.not_lt_zero _),fun _=>⟨fun _=>?_,fun e=>?_⟩⟩
    ·refine⟨hzn,_,mw hzn,by simp only[List.length_append,List.length_singleton];omega,hzn,by omega,?_⟩
     rw[vE hz]
     exact hnx1 (eE c i (t+1) y.ins,t+1) ⟨q1,rfl⟩ (by dsimp only;omega)
    ·have e2:ltN z c.nodes.length=true:=aJ.2 hzn
     rw[e2] at e
     cases e
   ·have q1:=aU.1 q1
    try dsimp only at q1
    refine⟨by omega,hnx (eE c i t y.ins,i+1) ⟨q,?_⟩ (by dsimp only;omega)⟩
    unfold eE
    refine List.map_congr_left fun x _=>?_
    rw[List.take_of_length_le q1,oP hy]
    simp[bC]
  ·have q:=aU.1 q
   try dsimp only at q
   have:i=c.nodes.length:=by omega
   subst this
   refine hk _ ?_
   unfold eE nj
   refine List.map_congr_left fun x _=>?_
   unfold jh
   rw[List.take_of_length_le (by simp)]
   simp[bC]
 ·refine⟨Nat.zero_le _,?_⟩
  unfold eE
  apply List.ext_getElem?
  intro x
  rw[List.getElem?_replicate,List.getElem?_map]
  by_cases q:x<c.nodes.length
  ·rw[if_pos q,List.getElem?_range q]
   simp[jh,bC]
  ·rw[if_neg q,List.getElem?_eq_none (by simp;omega)]
   rfl
 ·rintro a rfl
  have hl:(nj c).length=c.nodes.length:=by unfold nj;simp
  refine ay (fun s=>s.2<=c.nodes.length/\s.1=nj c) (fun s=>c.nodes.length-s.2) (fun a=>a=nj c) ?_ ⟨Nat.zero_le _,rfl⟩ ?_
  ·rintro k ⟨R,i⟩ nx ⟨hi,hR⟩ hnx hk
   dsimp only at hi hR
   subst hR
   refine⟨fun q=>?_,fun _=>hk _ rfl⟩
   have q:=aJ.1 q
   try dsimp only at q
   obtain⟨y,hy⟩:=au (l:=nj c) (i:=i) (by omega)
   refine⟨q,y,hy,q,by omega,hnx _ ⟨q,?_⟩ (by dsimp only;omega)⟩
   obtain⟨h1,rfl⟩:=List.getElem?_eq_some_iff.1 hy
   exact List.set_getElem_self h1
  ·rintro a rfl
   exact⟨hl.symm,h⟩
theorem zX {c:Circ} (g:FanPre c):FanOk c:=by
 refine FnV.pQ (enc:=ag 1 (ag 2 bX)) (dg fun r=>aj.cons (dg fun l=>uU l) aj.nil) fun h hB=>?_
 exact py (K:=fun r=>r=nj c) (rN g rfl) hB
theorem wu:([0,1,2,3,4,5,6,7,8,9,10,11,12,13,14,15].all fun i=>isTrue (nq Tryz.prog [] (mj Tryz.prog) 60 140 #[.string (jB i)] (dP vars)))=true:=by kernel_rfl
theorem CI {i:Nat} (hi:i<16):AY (jB i):=by
 have hm:i∈[0,1,2,3,4,5,6,7,8,9,10,11,12,13,14,15]:=by
  have:i=0\/i=1\/i=2\/i=3\/i=4\/i=5\/i=6\/i=7\/i=8\/i=9\/i=10\/i=11\/i=12\/i=13\/i=14\/i=15:=by omega
  simpa using this
 obtain⟨h',e⟩:=qS (List.all_eq_true.1 wu i hm)
 have c:=(gC hM hP (fun f vs h v e=>hG f vs h v e) 60 _ _ _ _ _ e).1
 exact⟨PureV.qe rfl,fun h b=>c.lift (by kernel_rfl) rfl (kb (tE b) (nF b))⟩
theorem yG:∀ i,i<16->∀ j,j<16->jB i=jB j->i=j:=by decide +kernel
theorem yh {l:List ByteArray}{x:ByteArray} (h:x ∉ l):jo (l.map fun s=>(s,true)) x=none:=by
 induction l with
 |nil=>rfl
 |cons a l ih =>
  simp only[List.mem_cons,not_or] at h
  rw[List.map_cons,jo,if_neg h.1]
  exact ih h.2
theorem yL {l:List ByteArray}{x:ByteArray} (h:x ∉ l):iA (l.map fun s=>(s,true)) x true=(l++[x]).map fun s=>(s,true):=by
 induction l with
 |nil=>rfl
 |cons a l ih =>
  simp only[List.mem_cons,not_or] at h
  rw[List.map_cons,iA,if_neg h.1,ih h.2]
  rfl
theorem nc {c:Circ}{K:Nat->Prop} (h1:∀ s∈c.names,AY s) (h2:c.names.Nodup) (h3:c.names.length<2 ^ 60) (h:K 0):gW c K:=by
 unfold gW
 refine ay (fun s=>s.2<=c.names.length/\s.1=(c.names.take s.2).map fun s=>(s,true)) (fun s=>c.names.length-s.2) (fun _=>True) ?_ ⟨Nat.zero_le _,by simp⟩ (fun _ _=>h)
 rintro k ⟨m,i⟩ nx ⟨hi,hR⟩ hnx hk
 dsimp only at hi hR
 subst hR
 refine⟨fun q=>?_,fun _=>hk () trivial⟩
 have q:=aJ.1 q
 try dsimp only at q
 obtain⟨x,hx⟩:=au q
 obtain⟨l1,l2⟩:=List.getElem?_eq_some_iff.1 hx
 have hnot:x ∉ c.names.take i:=fun mm=>by
  obtain⟨j,hj,e⟩:=List.getElem_of_mem mm
  rw[List.length_take] at hj
  rw[List.getElem_take] at e
  exact List.pairwise_iff_getElem.1 h2 j i (by omega) l1 (by omega) (e.trans l2.symm)
 refine⟨x,hx,dD ⟨h1 x (List.mem_of_getElem? hx),(fun e=>by cases e),fun _=>?_⟩⟩
 rw[yh hnot]
 refine⟨(fun e=>by cases e),fun _=>⟨by omega,hnx _ ⟨q,?_⟩ (by dsimp only;omega)⟩⟩
 dsimp only
 rw[yL hnot,List.take_succ_eq_append_getElem l1,l2]
theorem yI {c:Circ}{n:Nat} (hn:n<=16) (hc:c.names=(List.range n).map jB):NamesOk c:=by
 refine FnV.pQ (enc:=i64) (PureV.flat rfl) fun h hB=>?_
 refine kN (K:=fun r=>r=0) (nc ?_ ?_ ?_ rfl) hB
 ·intro s m
  rw[hc] at m
  obtain⟨i,hi,rfl⟩:=List.mem_map.1 m
  exact CI (by have:=List.mem_range.1 hi;omega)
 ·rw[hc]
  unfold List.Nodup
  rw[List.pairwise_map]
  refine List.Pairwise.imp_of_mem ?_ (List.nodup_range (n:=n))
  intro a b ha hb hne e
  exact hne (yG a (by have:=List.mem_range.1 ha;omega) b (by have:=List.mem_range.1 hb;omega) e)
 ·rw[hc];simp;omega
end Go.Proofs.YteceaohcjmbfbaaGreatDoor
