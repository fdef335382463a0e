/-
  P4, P5, F1, M1, Circ4, Man2, P6, P7, Carg, Ms, Lnz, Carg7, Ln2, Sus1, Carg8, U1, P8, S2, U2: parts of the proof.
-/
import Derived.Test.YteceaohcjmbfbaaGreatDoorSb43
namespace Go.Proofs.YteceaohcjmbfbaaGreatDoor
open Go.Abs
set_option maxRecDepth 100000
theorem nb_t {b:Bool} (h:(!b)=true):b=false:=by cases b;rfl;cases h
theorem nb_f {b:Bool} (h:(!b)=false):b=true:=by cases b;cases h;rfl
structure Init (c:Circ) (left R:List Nat) (i:Nat):Prop where
 ile:i<=c.nodes.length
 len:left.length=c.nodes.length
 cnt:∀ j,j<c.nodes.length->left.getD j 0=if j<i/\isComb (kd c j) then (insOf c j).length else 0
 nodup:R.Nodup
 rdy:∀ j,j∈R↔j<i/\left.getD j 0=0
 rlen:R.length<=i
theorem Init.step {c:Circ}{left R:List Nat}{i:Nat}{x:Node} (I:Init c left R i) (hx:c.nodes[i]?=some x) {left' R':List Nat}
  (hl:left'=if isComb x.kind then left.set i x.ins.length else left) (hR:(left'.getD i 0=0/\R'=R++[i])\/(left'.getD i 0≠0/\R'=R)):Init c left' R' (i+1):=by
 have hi:=lt_of_get hx
 have hiR:i ∉ R:=fun m=>by have:=((I.rdy i).1 m).1;omega
 have hg:∀ j,left'.getD j 0=if j=i then (if isComb x.kind then x.ins.length else 0) else left.getD j 0:=fun j=>by
  have h0:=I.cnt i hi
  rw[if_neg (by omega)] at h0
  rw[hl]
  by_cases q:isComb x.kind
  ·rw[if_pos q,getD_set (by rw[I.len];exact hi),if_pos q]
   by_cases e:i=j
   ·rw[if_pos e,if_pos e.symm]
   ·rw[if_neg e,if_neg (fun q=>e q.symm)]
  ·rw[if_neg q,if_neg q]
   by_cases e:j=i
   ·rw[if_pos e,e,h0]
   ·rw[if_neg e]
 have hlen:left'.length=c.nodes.length:=by rw[hl];split <;> simp[I.len]
 have hmem:∀ j,j∈R'↔j∈R\/(j=i/\left'.getD i 0=0):=fun j=>by
  rcases hR with⟨h0,rfl⟩|⟨h0,rfl⟩
  ·rw[List.mem_append,List.mem_singleton]
   exact⟨fun h=>h.imp id fun e=>⟨e,h0⟩,fun h=>h.imp id fun e=>e.1⟩
  ·exact⟨.inl,fun h=>h.resolve_right (fun q=>h0 q.2)⟩
 refine⟨hi,hlen,fun j hj=>?_,?_,fun j=>?_,?_⟩
 ·rw[hg j]
  by_cases e:j=i
  ·subst e
   rw[if_pos rfl,kd_eq hx,ins_eq hx]
   by_cases q:isComb x.kind
   ·rw[if_pos q,if_pos ⟨by omega,q⟩]
   ·rw[if_neg q,if_neg (fun h=>q h.2)]
  ·rw[if_neg e,I.cnt j hj]
   by_cases q:j<i/\isComb (kd c j)
   ·rw[if_pos q,if_pos ⟨by omega,q.2⟩]
   ·rw[if_neg q,if_neg (fun h=>q ⟨by omega,h.2⟩)]
 ·rcases hR with⟨_,rfl⟩|⟨_,rfl⟩
  ·rw[List.nodup_append]
   exact⟨I.nodup,by simp,fun a ha b hb=>by rw[List.mem_singleton] at hb;subst hb;exact fun e=>hiR (by rw[<- e];exact ha)⟩
  ·exact I.nodup
 ·rw[hmem,I.rdy j]
  constructor
  ·rintro (⟨h1,h2⟩|⟨rfl,h2⟩)
   ·refine⟨by omega,?_⟩
    rw[hg j,if_neg (by omega)];exact h2
   ·exact⟨by omega,h2⟩
  ·rintro⟨h1,h2⟩
   by_cases e:j=i
   ·subst e;exact .inr ⟨rfl,h2⟩
   ·rw[hg j,if_neg e] at h2
    exact .inl ⟨by omega,h2⟩
 ·have:=I.rlen
  rcases hR with⟨_,rfl⟩|⟨_,rfl⟩
  ·rw[List.length_append,List.length_singleton];omega
  ·omega
theorem Kahn.rlen {c:Circ}{lev left R:List Nat}{d:Nat} (K:Kahn c lev left R d):R.length<=c.nodes.length:=by
 have:R.length<=(List.range c.nodes.length).length:=nodup_len K.nodup (fun i m=>List.mem_range.2 (K.lt i m))
 simpa using this
theorem KahnIn.rlen {c:Circ}{lev0 R0 lev left R:List Nat}{d x t:Nat} (K:KahnIn c lev0 R0 d x lev left R t):R.length<=c.nodes.length:=by
 have:R.length<=(List.range c.nodes.length).length:=nodup_len K.nodup (fun i m=>List.mem_range.2 (K.lt i m))
 simpa using this
theorem getN {l:List Nat}{n i:Nat} (hl:l.length=n) (hi:i<n):l[i]?=some (l.getD i 0):=getD_some (by omega)
theorem fan_len {c:Circ} (g:Good c) {x:Nat} (_hx:x<c.nodes.length):(fanOf c x).length<=1000:=by
 have hl:=g.len
 unfold fanOf
 rw[List.length_flatMap]
 have h1:∀ p∈c.nodes.zipIdx,(fanNode x p.2 p.1.ins).length<=16:=by
  intro p m
  unfold fanNode
  rw[List.length_map]
  refine Nat.le_trans (List.length_filter_le _ _) ?_
  rw[List.length_zipIdx]
  have hm:=List.mem_zipIdx m
  have h3:p.2<c.nodes.length:=by omega
  have h4:c.nodes[p.2]?=some p.1:=by
   rw[hm.2.2,List.getElem?_eq_getElem h3]
   simp
  exact (g.node _ _ h4).few
 have h2:∀ (l:List (Node×Nat)),(∀ p∈l,(fanNode x p.2 p.1.ins).length<=16)->(l.map fun p=>(fanNode x p.2 p.1.ins).length).sum<=l.length*16:=by
  intro l
  induction l with
  |nil=>intro _;simp
  |cons a l ih =>
   intro h
   have:=ih fun p m=>h p (.tail _ m)
   have:=h a (.head _)
   simp only[List.map_cons,List.sum_cons,List.length_cons]
   omega
 have:=h2 _ h1
 rw[List.length_zipIdx] at this
 omega
set_option maxHeartbeats 2000000 in
theorem levels_vc {c:Circ}{K:List Nat×Nat->Prop} (g:Good c) (h:∀ lev,LevOk c lev->K (lev,0)):netlists_Levels_wp c K:=by
 have hlen:=g.len
 unfold netlists_Levels_wp
 refine shape_vc g ⟨fun q=>absurd rfl (ne_t.1 q),fun _=>⟨by omega,by omega,by omega,by omega,?_⟩⟩
 refine joinLoop (fun s=>Init c s.1 s.2.1 s.2.2) (fun s=>c.nodes.length-s.2.2) (fun a=>Init c a.1 a.2 c.nodes.length) ?_ ?_ ?_
 ·rintro k ⟨left,R,i⟩ nx I hnx hk
  dsimp only at I
  have hrl:=I.rlen
  have hile:=I.ile
  refine⟨fun q=>?_,fun q=>?_⟩
  ·have q:=lt_t.1 q
   obtain⟨x,hx⟩:=get_lt q
   refine joinI ⟨x,hx,joinI (comb_vc ?_)⟩
   have main:∀ left',left'=(if isComb x.kind then left.set i x.ins.length else left)->i<c.nodes.length/\∃ x31,left'[i]?=some x31/\(eqN x31 0=true->(R.length+([i]:List Nat).length)*8<=2 ^ 47/\i+1<2 ^ 63/\nx (left',R++[i],i+1))/\(eqN x31 0=false->i+1<2 ^ 63/\nx (left',R,i+1)):=by
    intro left' hl
    have hlen':left'.length=c.nodes.length:=by rw[hl];split <;> simp[I.len]
    refine⟨q,_,getN hlen' q,fun e=>⟨by simp only[List.length_singleton];omega,by omega,hnx (left',R++[i],i+1) (I.step hx hl (.inl ⟨eq_t.1 e,rfl⟩)) (by dsimp only;omega)⟩,fun e=>⟨by omega,hnx (left',R,i+1) (I.step hx hl (.inr ⟨eq_f.1 e,rfl⟩)) (by dsimp only;omega)⟩⟩
   refine⟨fun e=>⟨q,_,getN I.len q,main _ ?_⟩,fun e=>main _ ?_⟩
   ·rw[if_pos (show isComb x.kind from of_decide_eq_true e)]
   ·rw[if_neg (show ¬ isComb x.kind from of_decide_eq_false e)]
  ·have q:=lt_f.1 q
   have:i=c.nodes.length:=by omega
   subst this
   exact hk (left,R) I
 ·refine⟨Nat.zero_le _,by simp,fun j hj=>?_,List.nodup_nil,fun j=>by simp,Nat.zero_le _⟩
  dsimp only
  rw[List.getD,List.getElem?_replicate,if_pos hj,if_neg (by omega)]
  rfl
 ·rintro⟨left0,R0⟩ I
  dsimp only at I ⊢
  refine fanout_vc g.fanOk ?_
  have K0:Kahn c (List.replicate c.nodes.length 0) left0 R0 0:=Kahn.start I.len (fun i hi=>by rw[I.cnt i hi];simp only[hi,true_and]) I.nodup I.rdy
  refine joinLoop (fun s=>Kahn c s.1 s.2.1 s.2.2.1 s.2.2.2) (fun s=>c.nodes.length-s.2.2.2) (fun a=>a.2=c.nodes.length/\LevOk c a.1) ?_ K0 ?_
  ·rintro k ⟨lev,left,R,d⟩ nx Kh hnx hk
   dsimp only at Kh
   try dsimp only
   have hrl:=Kh.rlen
   refine⟨fun q=>?_,fun q=>?_⟩
   ·have q:=lt_t.1 q
    try dsimp only at q
    obtain⟨x,hx⟩:=get_lt q
    have hxn:=Kh.lt x (List.mem_of_getElem? hx)
    have hfl:=fan_len g hxn
    refine⟨x,hx,by omega,_,fanL_get hxn,fun e=>?_,fun e=>⟨_,fanL_get hxn,?_⟩⟩
    ·have e:=eq_t.1 e
     exact hnx _ ((Kh.enter hx).leave hx (by omega)) (by dsimp only;omega)
    ·refine loopW_intro (fun s=>KahnIn c lev R d x s.1 s.2.1 s.2.2.1 s.2.2.2) (fun s=>(fanOf c x).length-s.2.2.2) ?_ (Kh.enter hx)
     rintro⟨lev1,left1,R1,t⟩ nx1 K1 hnx1
     dsimp only at K1
     try dsimp only
     have hrl1:=K1.rlen
     refine⟨fun q1=>?_,fun q1=>hnx (lev1,left1,R1,d+1) (K1.leave hx (lt_f.1 q1)) (by dsimp only;omega)⟩
     have q1:=lt_t.1 q1
     try dsimp only at q1
     obtain⟨l,hl⟩:=get_lt q1
     have hj:=fan_lt (List.mem_of_getElem? hl)
     obtain⟨y,hy⟩:=get_lt hj
     have hky:=kd_eq hy
     refine joinI ⟨l,hl,y,hy,comb_vc ⟨fun e=>?_,fun e=>?_⟩⟩
     ·have e:¬ isComb (kd c l.node):=by rw[hky];exact of_decide_eq_false (nb_t e)
      exact⟨by omega,hnx1 (lev1,left1,R1,t+1) (K1.skip hl e) (by dsimp only;omega)⟩
     ·have e:isComb (kd c l.node):=by rw[hky];exact of_decide_eq_true (nb_f e)
      have hp:=K1.pos hl e
      have hb:=K1.bndx
      have hll:=getN K1.leftLen hj
      have hb2:left1.getD l.node 0<2 ^ 63:=by
       rw[K1.cnt _ hj,if_pos e]
       have h1:=List.countP_le_length (p:=fun k=>decide (k ∉ R.take d/\k≠x)) (l:=insOf c l.node)
       have h2:=List.countP_le_length (p:=fun l':Ln=>l'.node==l.node) (l:=(fanOf c x).drop t)
       have h3:(insOf c l.node).length<=16:=by rw[ins_eq hy];exact (g.node _ _ hy).few
       rw[List.length_drop] at h2
       omega
      refine⟨hj,_,getN K1.levLen hj,hxn,_,getN K1.levLen hxn,by omega,hj,_,getN K1.levLen hj,hj,_,hll,hp,hb2,hj,_,hll,hj,left1.getD l.node 0-1,?_,fun e2=>?_,fun e2=>?_⟩
      ·rw[List.getElem?_set_self (by rw[K1.leftLen];exact hj)]
      ·exact⟨by simp only[List.length_singleton];omega,by omega,hnx1 _ (K1.step hl e hx (.inl ⟨eq_t.1 e2,rfl⟩)) (by dsimp only;omega)⟩
      ·exact⟨by omega,hnx1 _ (K1.step hl e hx (.inr ⟨eq_f.1 e2,rfl⟩)) (by dsimp only;omega)⟩
   ·obtain⟨h1,h2⟩:=Kh.all g (lt_f.1 q)
    exact hk (lev,d) ⟨h1,h2⟩
  ·rintro⟨lev,d⟩ ⟨hd,hl⟩
   dsimp only at hd hl ⊢
   exact⟨fun q=>absurd (lt_t.1 q) (by omega),fun _=>⟨hl.len.symm,h lev hl⟩⟩
theorem check_vc {c:Circ}{K:Nat->Prop} (g:Good c) (h:K 0):netlists_Check_wp c K:=by
 unfold netlists_Check_wp
 exact levels_vc g fun _ _=>h
theorem compare_vc {a b:Nat}{K:Int->Prop} (h:K (if a<b then Int.negSucc 0 else if b<a then Int.ofNat 1 else Int.ofNat 0)):cmp_Compare_wp a b K:=by
 unfold cmp_Compare_wp cmp_isNaN_wp
 have e1:neN a a=false:=ne_f.2 rfl
 have e2:neN b b=false:=ne_f.2 rfl
 rw[e1,e2]
 refine⟨(fun q=>by cases q),fun _=>⟨(fun q=>by cases q),fun _=>⟨fun q=>?_,fun q=>⟨fun q2=>?_,fun q2=>?_⟩⟩⟩⟩
 ·rw[if_pos (lt_t.1 q)] at h;exact h
 ·have:=lt_f.1 q
  rw[if_neg (by omega),if_pos (lt_t.1 q2)] at h;exact h
 ·have:=lt_f.1 q
  have:=lt_f.1 q2
  rw[if_neg (by omega),if_neg (by omega)] at h;exact h
theorem cmp_neg {a b:Nat}:ltI (if a<b then Int.negSucc 0 else if b<a then Int.ofNat 1 else Int.ofNat 0) (Int.ofNat 0)=decide (a<b):=by
 by_cases c:a<b
 ·rw[if_pos c,decide_eq_true c];rfl
 ·rw[if_neg c,decide_eq_false c]
  by_cases q:b<a
  ·rw[if_pos q];rfl
  ·rw[if_neg q];rfl
structure Ins (lev data l:List Nat) (i j:Nat):Prop where
 perm:l.Perm data
 jle:j<=i
 ord:∀ p q,p<q->q<=i->q≠j->lev.getD (l.getD p 0) 0<=lev.getD (l.getD q 0) 0
theorem swap_get {l:List Nat}{i j k:Nat} (hi:i<l.length) (hj:j<l.length):((l.set i (l.getD j 0)).set j (l.getD i 0)).getD k 0=if k=j then l.getD i 0 else if k=i then l.getD j 0 else l.getD k 0:=by
 rw[getD_set (by simpa using hj)]
 by_cases c:j=k
 ·rw[if_pos c,if_pos c.symm]
 ·have c2:¬ k=j:=fun e=>c e.symm
  rw[if_neg c,if_neg c2,getD_set hi]
  by_cases q:i=k
  ·rw[if_pos q,if_pos q.symm]
  ·have q2:¬ k=i:=fun e=>q e.symm
   rw[if_neg q,if_neg q2]
theorem swap_perm {l:List Nat}{i j:Nat} (hi:i<l.length) (hj:j<l.length):((l.set i (l.getD j 0)).set j (l.getD i 0)).Perm l:=by
 have e1:l.getD j 0=l[j]:=by rw[List.getD,List.getElem?_eq_getElem hj];rfl
 have e2:l.getD i 0=l[i]:=by rw[List.getD,List.getElem?_eq_getElem hi];rfl
 rw[e1,e2]
 exact List.set_set_perm hi hj
theorem Ins.swap {lev data l:List Nat}{i j:Nat} (I:Ins lev data l i j) (hi:i<l.length) (hj:0<j) (h:lev.getD (l.getD j 0) 0<lev.getD (l.getD (j-1) 0) 0):Ins lev data ((l.set j (l.getD (j-1) 0)).set (j-1) (l.getD j 0)) i (j-1):=by
 have:=I.jle
 refine⟨(swap_perm (by omega) (by omega)).trans I.perm,by omega,fun p q hpq hq hne=>?_⟩
 rw[swap_get (by omega) (by omega),swap_get (by omega) (by omega),if_neg hne]
 by_cases c:q=j
 ·subst c
  rw[if_pos rfl]
  by_cases e:p=q-1
  ·rw[if_pos e];omega
  ·rw[if_neg e,if_neg (by omega)]
   exact I.ord p (q-1) (by omega) (by omega) (by omega)
 ·rw[if_neg c]
  by_cases e:p=j-1
  ·rw[if_pos e]
   exact I.ord j q (by omega) hq c
  ·rw[if_neg e]
   by_cases e2:p=j
   ·rw[if_pos e2]
    exact I.ord (j-1) q (by omega) hq c
   ·rw[if_neg e2]
    exact I.ord p q hpq hq c
theorem Ins.fin {lev data l:List Nat}{i j:Nat} (I:Ins lev data l i j) (h:j=0\/lev.getD (l.getD (j-1) 0) 0<=lev.getD (l.getD j 0) 0):∀ p q,p<q->q<=i->lev.getD (l.getD p 0) 0<=lev.getD (l.getD q 0) 0:=by
 intro p q hpq hq
 by_cases c:q=j
 ·subst c
  have h:=h.resolve_left (by omega)
  by_cases e:p=q-1
  ·subst e;exact h
  ·exact Nat.le_trans (I.ord p (q-1) (by omega) (by omega) (by omega)) h
 ·exact I.ord p q hpq hq c
structure Sorted (lev data l:List Nat):Prop where
 perm:l.Perm data
 ord:∀ p q,p<q->q<l.length->lev.getD (l.getD p 0) 0<=lev.getD (l.getD q 0) 0
theorem ins_vc {data lev:List Nat}{K:List Nat->Prop} (hn:data.length<=16) (hlev:∀ x∈data,x<lev.length) (h:∀ l,Sorted lev data l->K l):sort_ins_wp data lev data.length 0 data.length K:=by
 unfold sort_ins_wp
 refine⟨by omega,?_⟩
 refine loopW_intro (fun s=>s.1.Perm data/\1<=s.2/\∀ p q,p<q->q<s.2->q<data.length->lev.getD (s.1.getD p 0) 0<=lev.getD (s.1.getD q 0) 0) (fun s=>data.length-s.2) ?_ ⟨List.Perm.refl _,by dsimp only;omega,fun p q h1 h2=>by dsimp only at h2;omega⟩
 rintro⟨l,i⟩ nx ⟨hp,hi1,hord⟩ hnx
 dsimp only at hp hi1 hord
 have hl:=hp.length_eq
 refine⟨fun q=>?_,fun q=>?_⟩
 ·have q:=lt_t.1 q
  try dsimp only at q
  refine joinLoop (fun s=>Ins lev data s.1 i s.2) (fun s=>s.2) (fun a=>a.Perm data/\∀ p q,p<q->q<=i->lev.getD (a.getD p 0) 0<=lev.getD (a.getD q 0) 0) ?_ ?_ ?_
  ·rintro k ⟨m,j⟩ nx2 I hnx2 hk
   dsimp only at I
   try dsimp only
   have hm:=I.perm.length_eq
   have hji:=I.jle
   have gm:∀ p,p<data.length->m[p]?=some (m.getD p 0):=fun p hp=>getN hm hp
   have gl:∀ p,p<data.length->lev[m.getD p 0]?=some (lev.getD (m.getD p 0) 0):=fun p hp=>getN rfl (hlev _ (I.perm.mem_iff.1 (List.mem_of_getElem? (gm p hp))))
   refine joinI ⟨fun c=>?_,fun c=>?_⟩
   ·have c:=lt_t.1 c
    refine⟨by omega,_,gm j (by omega),by omega,by omega,by omega,_,gm (j-1) (by omega),_,gl j (by omega),_,gl (j-1) (by omega),compare_vc ?_⟩
    rw[cmp_neg]
    refine⟨fun e=>?_,fun e=>?_⟩
    ·have e:=of_decide_eq_true e
     refine⟨by omega,by omega,by omega,by omega,by omega,_,gm (j-1) (by omega),by omega,_,gm j (by omega),by omega,_,gm j (by omega),by omega,?_⟩
     have hj2:j-1<(m.set j (m.getD (j-1) 0)).length:=by rw[List.length_set];omega
     exact⟨_,List.getElem?_eq_getElem hj2,by omega,by omega,hnx2 _ (I.swap (by omega) c e) (by dsimp only;omega)⟩
    ·have e:=of_decide_eq_false e
     exact hk m ⟨I.perm,I.fin (.inr (by omega))⟩
   ·have c:=lt_f.1 c
    exact⟨(fun q=>by cases q),fun _=>hk m ⟨I.perm,I.fin (.inl (by omega))⟩⟩
  ·refine⟨hp,Nat.le_refl _,fun p q2 h1 h2 h3=>hord p q2 h1 (by omega) (by omega)⟩
  ·rintro a ⟨ha,hb⟩
   exact⟨by omega,hnx (a,i+1) ⟨ha,by dsimp only;omega,fun p q2 h1 h2 h3=>hb p q2 h1 (by dsimp only at h2;omega)⟩ (by dsimp only;omega)⟩
 ·have q:=lt_f.1 q
  exact h l ⟨hp,fun p q2 h1 h2=>hord p q2 h1 (by omega) (by omega)⟩
theorem stable_vc {data lev:List Nat}{K:List Nat->Prop} (hn:data.length<=16) (hlev:∀ x∈data,x<lev.length) (h:∀ l,Sorted lev data l->K l):sort_stable_wp data lev data.length data.length K:=by
 unfold sort_stable_wp
 refine joinLoop (fun s=>s=(data,0,20)) (fun _=>0) (fun a=>a=(data,0)) ?_ rfl ?_
 ·rintro k s nx rfl _ hk
  exact⟨fun q=>absurd (nlt_t.1 q) (by omega),fun _=>hk _ rfl⟩
 ·rintro a rfl
  refine ins_vc hn hlev fun l hl=>?_
  refine loopW_intro (fun s=>s=20) (fun _=>0) ?_ rfl
  rintro s nx rfl _
  exact⟨fun q=>absurd (lt_t.1 q) (by omega),fun _=>h l hl⟩
structure OrdOk (c:Circ) (o:List Nat):Prop where
 perm:o.Perm (List.range c.nodes.length)
 before:∀ (a i:Nat) (x:Node) (k:Nat),o[a]?=some i->c.nodes[i]?=some x->isComb x.kind->k∈x.ins->∃ b,b<a/\o[b]?=some k
theorem ord_of {c:Circ} (g:Good c) {lev o:List Nat} (hl:LevOk c lev) (hs:Sorted lev (List.range c.nodes.length) o):OrdOk c o:=by
 refine⟨hs.perm,fun a i x k ha hx hc hk=>?_⟩
 have hk2:k<c.nodes.length:=(g.node i x hx).ins k hk
 have hko:k∈o:=hs.perm.mem_iff.2 (List.mem_range.2 hk2)
 obtain⟨b,hb,e⟩:=List.getElem_of_mem hko
 have hb2:o[b]?=some k:=by rw[List.getElem?_eq_getElem hb,e]
 refine⟨b,?_,hb2⟩
 have hup:=hl.up i x hx hc k hk
 have ga:o.getD a 0=i:=by rw[List.getD,ha];rfl
 have gb:o.getD b 0=k:=by rw[List.getD,hb2];rfl
 rcases Nat.lt_trichotomy b a with q|q|q
 ·exact q
 ·subst q;rw[ha] at hb2;cases hb2;omega
 ·have:=hs.ord a b q hb
  rw[ga,gb] at this
  omega
theorem order_vc {c:Circ}{K:List Nat×Nat->Prop} (g:Good c) (h:∀ o,OrdOk c o->K (o,0)):netlists_Order_wp c K:=by
 have hlen:=g.len
 unfold netlists_Order_wp
 refine levels_vc g fun lev hl=>⟨fun q=>absurd rfl (ne_t.1 q),fun _=>⟨by omega,by omega,?_⟩⟩
 refine joinLoop (fun s=>s.2<=c.nodes.length/\s.1.length=c.nodes.length/\∀ j,j<s.2->s.1[j]?=some j) (fun s=>c.nodes.length-s.2) (fun a=>a=List.range c.nodes.length) ?_ ⟨Nat.zero_le _,by simp,fun j hj=>absurd hj (Nat.not_lt_zero _)⟩ ?_
 ·rintro k ⟨l,i⟩ nx ⟨hi,h1,h2⟩ hnx hk
  dsimp only at hi h1 h2
  refine⟨fun q=>?_,fun q=>?_⟩
  ·have q:=lt_t.1 q
   try dsimp only at q
   refine⟨q,_,getN h1 q,by omega,hnx (l.set i i,i+1) ⟨q,by simp[h1],fun j hj=>?_⟩ (by dsimp only;omega)⟩
   dsimp only at hj ⊢
   rw[List.getElem?_set]
   by_cases e:i=j
   ·rw[if_pos e,if_pos (by omega),e]
   ·rw[if_neg e];exact h2 j (by omega)
  ·have q:=lt_f.1 q
   try dsimp only at q
   refine hk l (List.ext_getElem? fun j=>?_)
   by_cases e:j<c.nodes.length
   ·rw[h2 j (by omega),List.getElem?_range e]
   ·rw[List.getElem?_eq_none (by omega),List.getElem?_eq_none (by simp;omega)]
 ·rintro a rfl
  unfold sort_all_wp
  have e:(List.range c.nodes.length).length=c.nodes.length:=by simp
  have:=stable_vc (data:=List.range c.nodes.length) (lev:=lev) (K:=fun x1=>c.nodes.length=x1.length/\K (x1,0)) (by omega) (fun x m=>by rw[hl.len];exact List.mem_range.1 m) (fun l hs=>⟨by have:=hs.perm.length_eq;omega,h l (ord_of g hl hs)⟩)
  rw[e] at this
  exact this
set_option maxHeartbeats 8000000
def fanout_all_wp (p0:Circ) (K:(List (List Ln))->Prop):Prop :=
 24*p0.nodes.length<=2 ^ 48/\p0.nodes.length<2 ^ 63/\joinW (α:=(List (List Ln))) (fun k6=>loopW (S:=((List (List Ln))×Nat)) (fun (v7,v9) nx11=>((ltN v9 p0.nodes.length)=true->joinW (α:=(List (List Ln))) (fun k15=>∃ x16,p0.nodes[v9]?=some x16/\loopW (S:=((List (List Ln))×Nat)) (fun (v19,v21) nx23=>((ltN v21 x16.ins.length)=true->joinW (α:=(List (List Ln))) (fun k27=>∃ x28,x16.ins[v21]?=some x28/\((ltN x28 0)=true->k27 v19)/\((ltN x28 0)=false->((!(!ltN x28 p0.nodes.length))=true->x28<p0.nodes.length/\∃ x29,v19[x28]?=some x29/\(x29.length+([(⟨v9,v21⟩:Ln)]:(List Ln)).length)*16<=2 ^ 47/\x28<p0.nodes.length/\k27 (v19.set x28 (x29++([(⟨v9,v21⟩:Ln)]:(List Ln)))))/\((!(!ltN x28 p0.nodes.length))=false->k27 v19))) (fun v24=>v21+1<2 ^ 63/\nx23 (v24,(v21+1))))/\((ltN v21 x16.ins.length)=false->k15 v19)) (v7,0)) (fun v12=>v9+1<2 ^ 63/\nx11 (v12,(v9+1))))/\((ltN v9 p0.nodes.length)=false->k6 v7)) ((List.replicate p0.nodes.length ([]:List Ln)),0)) (fun v3=>joinW (α:=(List (List Ln))) (fun k40=>loopW (S:=((List (List Ln))×Nat)) (fun (v41,v43) nx45=>((ltN v43 p0.nodes.length)=true->v43<p0.nodes.length/\∃ x46,v41[v43]?=some x46/\v43<p0.nodes.length/\v43+1<2 ^ 63/\nx45 ((v41.set v43 x46),(v43+1)))/\((ltN v43 p0.nodes.length)=false->k40 v41)) (v3,0)) (fun v37=>p0.nodes.length=v37.length/\K v37))
theorem fanout_all_walk {p0:Circ}{K:(List (List Ln))->Prop} (hm:fanout_all_wp p0 K) {h0:Heap} (hB:HasB vars h0):∃ r,K r/\CallD Tryz.prog NG 98 ⟨[encCirc p0]⟩ h0 ((encL 1 (encL 2 encLn)) r) h0:=by
 unfold fanout_all_wp at hm
 refine fw Tryz.func98 hB (enc:=(encL 1 (encL 2 encLn))) (fun r=>pureL (fun _=>AllPure.cons (pureL (fun _=>pure_lnC _)) AllPure.nil)) fun O=>?_;conv=>whnf
 refine gX ?_
 refine fz ?_;refine gX ?_
 refine Own.makeRows (α:=Ln) (b:=24) (n:=p0.nodes.length) encLn 2 O rfl rfl rfl rfl rfl rfl hm.1 hm.2.1 fun g1 h O=>?_;refine gX ?_
 replace hm:=hm.2.2
 refine fg Tryz.func129 ?_;refine gX ?_
 refine fz ?_;refine gH ?_
 apply Cs;conv=>whnf
 apply Cs;refine gH ?_
 apply Cs;conv=>whnf
 refine gH ?_
 refine jn (σ:=(List (List Ln))×(List (Option Nat))) hm 65 [3] (fun s=>s.1) (fun (v3,a4) h=>RowsOk a4 v3/\Own vars h0 ([((some g1),.cells (rowVals 2 encLn a4 v3) false)]++(rowSlots encLn a4 v3)) h) (fun (v3,a4)=>[]) (fun hm=>?_) ?_
 ·refine gX ?_
  refine lw 65 [3,4,18,19] (σ:=((List (List Ln))×Nat)×(List (Option Nat))) (fun s=>s.1) (fun ((v7,v9),a8) h=>RowsOk a8 v7/\Own vars h0 ([((some g1),.cells (rowVals 2 encLn a8 v7) false)]++(rowSlots encLn a8 v7)) h) (fun ((v7,v9),a8)=>[(20,(i64 v9))]) (((List.replicate p0.nodes.length ([]:List Ln)),0),(List.replicate p0.nodes.length none)) hm ⟨(RowsOk.start p0.nodes.length),O⟩ ?_
  clear hm;rintro⟨⟨v7,v9⟩,a8⟩ nx11 base h hm ⟨hr10,O⟩
  refine gX ?_
  refine br hm (fun hm=>?_) fun hm=>?_
  ·apply Cs;conv=>whnf
   refine jn (σ:=(List (List Ln))×(List (Option Nat))) hm 65 [3,4,18,19,20] (fun s=>s.1) (fun (v12,a13) h=>RowsOk a13 v12/\Own vars h0 ([((some g1),.cells (rowVals 2 encLn a13 v12) false)]++(rowSlots encLn a13 v12)) h) (fun (v12,a13)=>[]) (fun hm=>?_) ?_
   ·refine gX ?_
    refine atF hm fun x16 hx16 hm=>?_;refine gH ?_
    refine O.new (anew_alloc (l:=[(n8 0),(.slice none 0 0),(i64 0),(i64 0)]) rfl rfl rfl) fun g17 h O=>?_;refine gH ?_
    refine O.stC 4 (.head _) [(n8 x16.kind),((encL 1 i64) x16.ins),(i64 x16.mem),(i64 x16.bit)] fun h O=>?_;refine gX ?_
    refine lw 65 [3,4,5,18,19,20,26,27] (σ:=((List (List Ln))×Nat)×(List (Option Nat))) (fun s=>s.1) (fun ((v19,v21),a20) h=>RowsOk a20 v19/\Own vars h0 ([((some g1),.cells (rowVals 2 encLn a20 v19) false)]++(rowSlots encLn a20 v19)) h) (fun ((v19,v21),a20)=>[(28,(i64 v21))]) ((v7,0),a8) hm ⟨hr10,(Own.selT [((some g17),.cells [(n8 x16.kind),((encL 1 i64) x16.ins),(i64 x16.mem),(i64 x16.bit)] false),((some g1),.cells (rowVals 2 encLn a8 v7) false)] (L:=(rowSlots encLn a8 v7)) O [1] (by decide))⟩ ?_
    clear hm;rintro⟨⟨v19,v21⟩,a20⟩ nx23 base h hm ⟨hr22,O⟩
    refine gX ?_
    refine br hm (fun hm=>?_) fun hm=>?_
    ·apply Cs;conv=>whnf
     refine jn (σ:=(List (List Ln))×(List (Option Nat))) hm 65 [3,4,5,18,19,20,26,27,28] (fun s=>s.1) (fun (v24,a25) h=>RowsOk a25 v24/\Own vars h0 ([((some g1),.cells (rowVals 2 encLn a25 v24) false)]++(rowSlots encLn a25 v24)) h) (fun (v24,a25)=>[]) (fun hm=>?_) ?_
     ·refine gX ?_
      refine atF hm fun x28 hx28 hm=>?_;refine gX ?_
      refine fg Tryz.func143 ?_;refine gX ?_
      refine br hm (fun hm=>?_) fun hm=>?_
      ·refine gX ?_
       refine bf ?_;refine gX ?_
       exact jx (v19,a20) hm ⟨hr22,O⟩
      ·refine gX ?_
       refine br hm (fun hm=>?_) fun hm=>?_
       ·refine gX ?_
        refine indexK (s:=1) (j:=x28) rfl rfl rfl rfl hm.1 ?_;refine gH ?_
        replace hm:=hm.2
        obtain⟨x29,hx29,hm⟩:=hm
        obtain⟨a30,hA32,ha31,O⟩:=Own.focus (S:=[((some g1),.cells (rowVals 2 encLn a20 v19) false)]) hr22 O hx29
        refine⟨_,rowLoad (O.at (.tail _ (.head _))) hA32 hx29 rfl rfl,?_⟩;refine gH ?_
        refine fz ?_;refine gH ?_
        refine O.apL (enc:=encLn) (l:=x29) (new:=([(⟨v9,v21⟩:Ln)]:(List Ln))) 2 (.head _) ha31.1 hm fun a34 h ha35 O hm=>?_;refine gH ?_
        refine indexK (s:=1) (j:=x28) rfl rfl rfl rfl hm.1 ?_;refine gH ?_
        replace hm:=hm.2
        refine O.rowStore (s:=2) (enc:=encLn) (j:=x28) (v:=(growV 2 a34 ((x29++([(⟨v9,v21⟩:Ln)]:(List Ln))).map encLn))) (.tail _ (.head _)) hr22 hx29 rfl rfl rfl rfl rfl fun h O=>?_;refine gH ?_
        rw[<- rowVals_set] at O
        have hr36:RowsOk (a20.set x28 a34) (v19.set x28 (x29++([(⟨v9,v21⟩:Ln)]:(List Ln)))):=RowsOk.set hr22 ⟨ha35,fun e=>absurd e (by simp)⟩
        replace O:=Own.unfocus (S:=[(some g1,.cells (rowVals 2 encLn (a20.set x28 a34) (v19.set x28 (x29++([(⟨v9,v21⟩:Ln)]:(List Ln))))) false)]) O hx29 hr22
        exact jx ((v19.set x28 (x29++([(⟨v9,v21⟩:Ln)]:(List Ln)))),(a20.set x28 a34)) hm ⟨hr36,O⟩
       ·refine gX ?_
        exact jx (v19,a20) hm ⟨hr22,O⟩
     ·clear hm;rintro⟨v24,a25⟩ base h hm ⟨hr26,O⟩
      refine gX ?_
      refine aAdd hm fun hm=>?_;refine gH ?_
      exact jx ((v24,(v21+1)),a25) hm ⟨hr26,O⟩
    ·refine gX ?_
     exact jx (v19,a20) hm ⟨hr22,O⟩
   ·clear hm;rintro⟨v12,a13⟩ base h hm ⟨hr14,O⟩
    refine gX ?_
    refine aAdd hm fun hm=>?_;refine gH ?_
    exact jx ((v12,(v9+1)),a13) hm ⟨hr14,O⟩
  ·refine gX ?_
   exact jx (v7,a8) hm ⟨hr10,O⟩
 ·clear hm;rintro⟨v3,a4⟩ base h hm ⟨hr5,O⟩
  conv=>whnf
  refine jn (σ:=(List (List Ln))×(List (Option Nat))) hm 65 [3] (fun s=>s.1) (fun (v37,a38) h=>RowsOk a38 v37/\Own vars h0 ([((some g1),.cells (rowVals 2 encLn a38 v37) false)]++(rowSlots encLn a38 v37)) h) (fun (v37,a38)=>[]) (fun hm=>?_) ?_
  ·refine gX ?_
   refine lw 65 [3,51,52] (σ:=((List (List Ln))×Nat)×(List (Option Nat))) (fun s=>s.1) (fun ((v41,v43),a42) h=>RowsOk a42 v41/\Own vars h0 ([((some g1),.cells (rowVals 2 encLn a42 v41) false)]++(rowSlots encLn a42 v41)) h) (fun ((v41,v43),a42)=>[(53,(i64 v43))]) ((v3,0),a4) hm ⟨hr5,O⟩ ?_
   clear hm;rintro⟨⟨v41,v43⟩,a42⟩ nx45 base h hm ⟨hr44,O⟩
   refine gX ?_
   refine br hm (fun hm=>?_) fun hm=>?_
   ·refine gX ?_
    refine indexK (s:=1) (j:=v43) rfl rfl rfl rfl hm.1 ?_;refine gH ?_
    replace hm:=hm.2
    obtain⟨x46,hx46,hm⟩:=hm
    obtain⟨a47,hA49,ha48,O⟩:=Own.focus (S:=[((some g1),.cells (rowVals 2 encLn a42 v41) false)]) hr44 O hx46
    refine⟨_,rowLoad (O.at (.tail _ (.head _))) hA49 hx46 rfl rfl,?_⟩;refine gX ?_
    refine fg Tryz.func77 ?_;refine gX ?_
    refine clipK (s:=2) (enc:=encLn) (l:=x46) (n:=x46.length) (m:=x46.length) rfl rfl rfl rfl rfl rfl rfl ?_;refine gX ?_
    refine indexK (s:=1) (j:=v43) rfl rfl rfl rfl hm.1 ?_;refine gH ?_
    replace hm:=hm.2
    refine O.rowStore (s:=2) (enc:=encLn) (j:=v43) (v:=(clipV a47 (x46.map encLn))) (.tail _ (.head _)) hr44 hx46 rfl rfl rfl rfl rfl fun h O=>?_;refine gH ?_
    refine CodeS.ghostLe (cs':=(rowVals 2 encLn a42 v41).set v43 (growV 2 a47 (x46.map encLn))) O (.tail _ (.head _)) (t2:=3) rfl rfl (LLe.set (O.clipGrow (.head _) (fun _=>rfl) ha48)) fun h O=>?_
    rw[<- rowVals_set] at O
    have hr51:RowsOk (a42.set v43 a47) (v41.set v43 x46):=RowsOk.set hr44 ha48
    replace O:=Own.unfocus (S:=[(some g1,.cells (rowVals 2 encLn (a42.set v43 a47) (v41.set v43 x46)) false)]) O hx46 hr44
    refine gX ?_
    refine aAdd hm fun hm=>?_;refine gH ?_
    exact jx (((v41.set v43 x46),(v43+1)),(a42.set v43 a47)) hm ⟨hr51,O⟩
   ·refine gX ?_
    exact jx (v41,a42) hm ⟨hr44,O⟩
  ·clear hm;rintro⟨v37,a38⟩ base h hm ⟨hr39,O⟩
   refine gX ?_
   obtain⟨hn52,hm⟩:=hm
   exact⟨v37,hm,O.ext,fun h2 F=>Own.rowsFL (L:=[((some g1),.cells (rowVals 2 encLn a38 v37) false)]) O F (Nat.le_refl _) (.head _) hr39 (fun _=>rfl) hn52⟩
set_option maxHeartbeats 8000000
def names_all_wp (p0:Circ) (K:Nat->Prop):Prop :=
 joinW (α:=Unit) (fun k3=>loopW (S:=((List (ByteArray×Bool))×Nat)) (fun (v4,v5) nx6=>((ltN v5 p0.names.length)=true->∃ x7,p0.names[v5]?=some x7/\joinW (α:=Bool) (fun k9=>netlists_IsName_wp x7 (fun r10=>((!r10)=true->k9 true)/\((!r10)=false->k9 ((mget v4 x7).getD false)))) (fun v8=>(v8=true->K 5)/\(v8=false->v5+1<2 ^ 63/\nx6 ((mset v4 x7 true),(v5+1)))))/\((ltN v5 p0.names.length)=false->k3 ())) (([]:List (ByteArray×Bool)),0)) (fun _=>K 0)
theorem names_all_walk {p0:Circ}{K:Nat->Prop} (hm:names_all_wp p0 K) {h0:Heap} (hB:HasB vars h0):∃ r,K r/\CallD Tryz.prog NG 126 ⟨[encCirc p0]⟩ h0 (i64 r) h0:=by
 unfold names_all_wp at hm
 refine fw Tryz.func126 hB (enc:=i64) (fun r=>PureV.flat rfl) fun O=>?_;conv=>whnf
 refine gX ?_
 refine fz ?_;refine gX ?_
 refine O.new ((rfl:anew _ _ _=some (.map (encM Value.string Value.bool ([]:List (ByteArray×Bool))),fun g=>.map (some g)))) fun g1 h O=>?_;refine gH ?_
 refine jn hm 25 [] (fun s=>s) (fun _ h=>Own vars h0 [] h) (fun _=>[]) (fun hm=>?_) ?_
 ·refine gX ?_
  refine lw 25 [3,8,9] (σ:=((List (ByteArray×Bool))×Nat)) (fun s=>s) (fun (v4,v5) h=>Own vars h0 [((some g1),.map (encM Value.string Value.bool v4))] h) (fun (v4,v5)=>[(10,(i64 v5))]) (([]:List (ByteArray×Bool)),0) hm O ?_
  clear hm;rintro⟨v4,v5⟩ nx6 base h hm O
  refine gX ?_
  refine br hm (fun hm=>?_) fun hm=>?_
  ·refine gX ?_
   refine atF hm fun x7 hx7 hm=>?_;refine gH ?_
   apply Cs;conv=>whnf
   refine jn hm 25 [3,5,8,9,10] (fun s=>s) (fun v8 h=>Own vars h0 [((some g1),.map (encM Value.string Value.bool v4))] h) (fun v8=>[(21,(.bool v8))]) (fun hm=>?_) ?_
   ·refine gX ?_
    refine ca (netlists_IsName_walk hm O.has) fun r10 hm=>?_;refine gH ?_
    refine br hm (fun hm=>?_) fun hm=>?_
    ·refine gX ?_
     exact jx true hm O
    ·refine gX ?_
     refine⟨_,lookupK (ek:=Value.string) (ev:=Value.bool) (m:=v4) (k:=x7) (z:=false) rfl rfl rfl rfl (by kernel_rfl) sameStr (O.at (.head _)) rfl rfl,?_⟩;refine gH ?_
     exact jx ((mget v4 x7).getD false) hm O
   ·clear hm;rintro v8 base h hm O
    refine gX ?_
    refine br hm (fun hm=>?_) fun hm=>?_
    ·refine gX ?_
     exact fe hm O
    ·refine gX ?_
     refine O.mapSet (ek:=Value.string) (ev:=Value.bool) (m:=v4) (k:=x7) (v:=true) (.head _) rfl rfl rfl sameStr rfl rfl rfl fun h O=>?_;refine gX ?_
     refine aAdd hm fun hm=>?_;refine gH ?_
     exact jx ((mset v4 x7 true),(v5+1)) hm O
  ·refine gX ?_
   exact jx () hm (O.sel [] (by decide))
 ·clear hm;rintro _ base h hm O
  refine gX ?_
  exact fe hm O
inductive PL (h:Heap):List Value->List Value->Prop
 |nil:PL h [] []
 |cons {a b:Value} {l m:List Value}:LLe h (cl a) (cl b)->PL h l m->PL h (a::l) (b::m)
theorem PL.refl (h:Heap):∀ l:List Value,PL h l l
 |[]=>.nil
 |_a::l=>.cons (LLe.refl h _) (PL.refl h l)
theorem PL.set {h:Heap}{l m:List Value} (p:PL h l m) {a b:Value} (ab:LLe h (cl a) (cl b)):∀ i,PL h (l.set i a) (m.set i b):=by
 induction p with
 |nil=>intro i;exact .nil
 |cons e _ ih =>
  intro i
  cases i with
  |zero=>exact .cons ab ‹_›
  |succ i=>exact .cons e (ih i)
theorem LLe.app {h:Heap}:∀ {a b:List Value}{c d:List Value},LLe h a b->LLe h c d->LLe h (a++c) (b++d)
 |[],[],_,_,_,q=>q
 |[],_::_,_,_,p,_=>by have:=p.1;simp at this
 |_::_,[],_,_,p,_=>by have:=p.1;simp at this
 |x::a,y::b,c,d,p,q=>by
  have h0:=p.get (i:=0) (x:=x) (y:=y) rfl rfl
  have h1:LLe h a b:=⟨by have:=p.1;simpa using this,fun i=>by have:=p.2 (i+1);simpa using this⟩
  exact LLe.cons h0 (LLe.app h1 q)
theorem PL.flat {h:Heap}{l m:List Value} (p:PL h l m):LLe h (flatC l) (flatC m):=by
 induction p with
 |nil=>exact LLe.refl _ _
 |cons e _ ih=>rw[flatC_cons,flatC_cons];exact LLe.app e ih
structure Asg where
 net:Nat
 value:Nat
structure U2 where
 a:Nat
 b:Nat
def fanPre (c:Circ) (i x:Nat):List Ln:=(c.nodes.zipIdx.take i).flatMap fun p=>fanNode x p.2 p.1.ins
theorem fanNode_snoc (x i:Nat) (l:List Nat) (a:Nat):fanNode x i (l++[a])=fanNode x i l++(if a=x then [⟨i,l.length⟩] else []):=by
 unfold fanNode
 rw[List.zipIdx_append,List.filter_append,List.map_append]
 congr 1
 by_cases c:a=x
 ·simp[c]
 ·simp[c]
theorem fanPre_succ {c:Circ}{i x:Nat}{y:Node} (hy:c.nodes[i]?=some y):fanPre c (i+1) x=fanPre c i x++fanNode x i y.ins:=by
 have h:c.nodes.zipIdx[i]?=some (y,i):=by rw[List.getElem?_zipIdx,hy];simp
 unfold fanPre
 obtain⟨h1,h2⟩:=List.getElem?_eq_some_iff.1 h
 rw[List.take_succ_eq_append_getElem h1,h2,List.flatMap_append]
 simp
theorem fanNode_len (x i:Nat) (l:List Nat):(fanNode x i l).length<=l.length:=by
 unfold fanNode
 rw[List.length_map]
 refine Nat.le_trans (List.length_filter_le _ _) ?_
 simp
structure FanPre (c:Circ):Prop where
 len:c.nodes.length<=16
 ins:∀ (i:Nat) (x:Node),c.nodes[i]?=some x->(∀ k∈x.ins,k<c.nodes.length)/\x.ins.length<=16
theorem fanPre_len {c:Circ} (g:FanPre c) (x:Nat):∀ i,i<=c.nodes.length->(fanPre c i x).length<=i*16
 |0,_=>by simp[fanPre]
 |i+1,h=>by
  obtain⟨y,hy⟩:=get_lt (l:=c.nodes) (i:=i) h
  rw[fanPre_succ hy,List.length_append]
  have:=fanPre_len g x i (by omega)
  have:=fanNode_len x i y.ins
  have:=(g.ins i y hy).2
  omega
def rowsAt (c:Circ) (i t:Nat) (ins:List Nat):List (List Ln):=(List.range c.nodes.length).map fun x=>fanPre c i x++fanNode x i (ins.take t)
theorem rowsAt_get {c:Circ}{i t x:Nat}{ins:List Nat} (hx:x<c.nodes.length):(rowsAt c i t ins)[x]?=some (fanPre c i x++fanNode x i (ins.take t)):=by
 unfold rowsAt
 rw[List.getElem?_map,List.getElem?_range hx]
 rfl
theorem rowsAt_step {c:Circ}{i t y:Nat}{ins:List Nat} (hy:ins[t]?=some y):(rowsAt c i t ins).set y (fanPre c i y++fanNode y i (ins.take t)++[⟨i,t⟩])=rowsAt c i (t+1) ins:=by
 have ht:=lt_of_get hy
 obtain⟨h1,h2⟩:=List.getElem?_eq_some_iff.1 hy
 have hs:∀ x,fanNode x i (ins.take (t+1))=fanNode x i (ins.take t)++(if y=x then [⟨i,t⟩] else []):=fun x=>by
  rw[List.take_succ_eq_append_getElem h1,h2,fanNode_snoc,List.length_take,Nat.min_eq_left (Nat.le_of_lt ht)]
 apply List.ext_getElem?
 intro x
 rw[List.getElem?_set]
 have hl:(rowsAt c i t ins).length=c.nodes.length:=by unfold rowsAt;simp
 by_cases c1:x<c.nodes.length
 ·rw[rowsAt_get c1,rowsAt_get c1,hs x]
  by_cases e:y=x
  ·subst e
   rw[if_pos rfl,if_pos (by omega),if_pos rfl,List.append_assoc]
  ·rw[if_neg e,if_neg e,List.append_nil]
 ·have hn:∀ k,(rowsAt c i k ins)[x]?=none:=fun k=>by
   refine List.getElem?_eq_none ?_
   unfold rowsAt;simp;omega
  rw[hn,hn]
  by_cases e:y=x
  ·rw[if_pos e,if_neg (by omega)]
  ·rw[if_neg e]
theorem fanout_all_vc {c:Circ}{K:List (List Ln)->Prop} (g:FanPre c) (h:K (fanL c)):fanout_all_wp c K:=by
 have hlen:=g.len
 unfold fanout_all_wp
 refine⟨by omega,by omega,?_⟩
 refine joinLoop (fun s=>s.2<=c.nodes.length/\s.1=rowsAt c s.2 0 []) (fun s=>c.nodes.length-s.2) (fun a=>a=fanL c) ?_ ?_ ?_
 ·rintro k ⟨R,i⟩ nx ⟨hi,hR⟩ hnx hk
  dsimp only at hi hR
  subst hR
  refine⟨fun q=>?_,fun q=>?_⟩
  ·have q:=lt_t.1 q
   try dsimp only at q
   obtain⟨y,hy⟩:=get_lt q
   obtain⟨g1,g2⟩:=g.ins i y hy
   refine joinI ⟨y,hy,?_⟩
   refine loopW_intro (fun s=>s.2<=y.ins.length/\s.1=rowsAt c i s.2 y.ins) (fun s=>y.ins.length-s.2) ?_ ⟨Nat.zero_le _,by unfold rowsAt;simp⟩
   rintro⟨R1,t⟩ nx1 ⟨ht,hR⟩ hnx1
   dsimp only at ht hR
   subst hR
   refine⟨fun q1=>?_,fun q1=>?_⟩
   ·have q1:=lt_t.1 q1
    try dsimp only at q1
    obtain⟨z,hz⟩:=get_lt q1
    have hzn:=g1 z (List.mem_of_getElem? hz)
    have hb:=fanPre_len g z i hi
    have hb2:=fanNode_len z i (y.ins.take t)
    have hb3:(y.ins.take t).length<=16:=by rw[List.length_take];omega
    refine joinI ⟨z,hz,fun e=>absurd (lt_t.1 e) (Nat.not_lt_zero _),fun _=>⟨fun _=>?_,fun e=>?_⟩⟩
    ·refine⟨hzn,_,rowsAt_get hzn,by simp only[List.length_append,List.length_singleton];omega,hzn,by omega,?_⟩
     rw[rowsAt_step hz]
     exact hnx1 (rowsAt c i (t+1) y.ins,t+1) ⟨q1,rfl⟩ (by dsimp only;omega)
    ·have e2:ltN z c.nodes.length=true:=lt_t.2 hzn
     rw[e2] at e
     cases e
   ·have q1:=lt_f.1 q1
    try dsimp only at q1
    refine⟨by omega,hnx (rowsAt c i t y.ins,i+1) ⟨q,?_⟩ (by dsimp only;omega)⟩
    unfold rowsAt
    refine List.map_congr_left fun x _=>?_
    rw[List.take_of_length_le q1,fanPre_succ hy]
    simp[fanNode]
  ·have q:=lt_f.1 q
   try dsimp only at q
   have:i=c.nodes.length:=by omega
   subst this
   refine hk _ ?_
   unfold rowsAt fanL
   refine List.map_congr_left fun x _=>?_
   unfold fanPre
   rw[List.take_of_length_le (by simp)]
   simp[fanNode]
 ·refine⟨Nat.zero_le _,?_⟩
  unfold rowsAt
  apply List.ext_getElem?
  intro x
  rw[List.getElem?_replicate,List.getElem?_map]
  by_cases q:x<c.nodes.length
  ·rw[if_pos q,List.getElem?_range q]
   simp[fanPre,fanNode]
  ·rw[if_neg q,List.getElem?_eq_none (by simp;omega)]
   rfl
 ·rintro a rfl
  have hl:(fanL c).length=c.nodes.length:=by unfold fanL;simp
  refine joinLoop (fun s=>s.2<=c.nodes.length/\s.1=fanL c) (fun s=>c.nodes.length-s.2) (fun a=>a=fanL c) ?_ ⟨Nat.zero_le _,rfl⟩ ?_
  ·rintro k ⟨R,i⟩ nx ⟨hi,hR⟩ hnx hk
   dsimp only at hi hR
   subst hR
   refine⟨fun q=>?_,fun _=>hk _ rfl⟩
   have q:=lt_t.1 q
   try dsimp only at q
   obtain⟨y,hy⟩:=get_lt (l:=fanL c) (i:=i) (by omega)
   refine⟨q,y,hy,q,by omega,hnx _ ⟨q,?_⟩ (by dsimp only;omega)⟩
   obtain⟨h1,rfl⟩:=List.getElem?_eq_some_iff.1 hy
   exact List.set_getElem_self h1
  ·rintro a rfl
   exact⟨hl.symm,h⟩
theorem fan_ok {c:Circ} (g:FanPre c):FanOk c:=by
 refine FnV.of_walk (enc:=encL 1 (encL 2 encLn)) (pureL fun r=>AllPure.cons (pureL fun l=>pure_lnC l) AllPure.nil) fun h hB=>?_
 exact fanout_all_walk (K:=fun r=>r=fanL c) (fanout_all_vc g rfl) hB
theorem mget_none {l:List ByteArray}{x:ByteArray} (h:x ∉ l):mget (l.map fun s=>(s,true)) x=none:=by
 induction l with
 |nil=>rfl
 |cons a l ih =>
  simp only[List.mem_cons,not_or] at h
  rw[List.map_cons,mget,if_neg h.1]
  exact ih h.2
theorem mset_new {l:List ByteArray}{x:ByteArray} (h:x ∉ l):mset (l.map fun s=>(s,true)) x true=(l++[x]).map fun s=>(s,true):=by
 induction l with
 |nil=>rfl
 |cons a l ih =>
  simp only[List.mem_cons,not_or] at h
  rw[List.map_cons,mset,if_neg h.1,ih h.2]
  rfl
theorem names_all_vc {c:Circ}{K:Nat->Prop} (h1:∀ s∈c.names,IsNm s) (h2:c.names.Nodup) (h3:c.names.length<2 ^ 60) (h:K 0):names_all_wp c K:=by
 unfold names_all_wp
 refine joinLoop (fun s=>s.2<=c.names.length/\s.1=(c.names.take s.2).map fun s=>(s,true)) (fun s=>c.names.length-s.2) (fun _=>True) ?_ ⟨Nat.zero_le _,by simp⟩ (fun _ _=>h)
 rintro k ⟨m,i⟩ nx ⟨hi,hR⟩ hnx hk
 dsimp only at hi hR
 subst hR
 refine⟨fun q=>?_,fun _=>hk () trivial⟩
 have q:=lt_t.1 q
 try dsimp only at q
 obtain⟨x,hx⟩:=get_lt q
 obtain⟨l1,l2⟩:=List.getElem?_eq_some_iff.1 hx
 have hnot:x ∉ c.names.take i:=fun mm=>by
  obtain⟨j,hj,e⟩:=List.getElem_of_mem mm
  rw[List.length_take] at hj
  rw[List.getElem_take] at e
  exact List.pairwise_iff_getElem.1 h2 j i (by omega) l1 (by omega) (e.trans l2.symm)
 refine⟨x,hx,joinI ⟨h1 x (List.mem_of_getElem? hx),(fun e=>by cases e),fun _=>?_⟩⟩
 rw[mget_none hnot]
 refine⟨(fun e=>by cases e),fun _=>⟨by omega,hnx _ ⟨q,?_⟩ (by dsimp only;omega)⟩⟩
 dsimp only
 rw[mset_new hnot,List.take_succ_eq_append_getElem l1,l2]
structure CB (x:CData):Prop where
 inp:x.inp<256
 dffs:x.dffs<256
 data0:x.data0<256
 data1:x.data1<256
 port0:x.port0<256
 port1:x.port1<256
 port2:x.port2<256
 port3:x.port3<256
 gates:∀ g∈x.gates,GOk g
 outs:∀ o∈x.outs,o<256
def shB:Sh:=.int .u8
theorem byte_of {a:Int} (w:shB.wf a):∃ n:Nat,n<256/\a=Int.ofNat n:=by
 have h:=u8_range w
 exact⟨a.toNat,by omega,by simp;omega⟩
theorem list_of {α β:Type}{f:α->Value}{g:β->Value}{p:β->Prop}:∀ (l:List α),(∀ x∈l,∃ y,p y/\f x=g y)->∃ m:List β,(∀ y∈m,p y)/\l.map f=m.map g/\m.length=l.length
 |[],_=>⟨[],(fun _ h=>by cases h),rfl,rfl⟩
 |x::l,h=>by
  obtain⟨y,h1,h2⟩:=h x (by simp)
  obtain⟨m,h3,h4,h5⟩:=list_of l fun z hz=>h z (by simp[hz])
  refine⟨y::m,fun z hz=>?_,by simp[h2,h4],by simp[h5]⟩
  rcases List.mem_cons.1 hz with rfl|hz
  ·exact h1
  ·exact h3 z hz
structure Pat where
 inp:List Nat
 state:List Nat
def encPat (x:Pat):Value:=.agg ⟨[encL 1 n8 x.inp,encL 1 n8 x.state]⟩
theorem pure_bytes (l:List Nat):PureV (encL 1 n8 l):=pureL fun _=>AllPure.cons (PureV.flat rfl) AllPure.nil
structure Rsp where
 out:List Nat
 next:List Nat
def encRsp (x:Rsp):Value:=.agg ⟨[encL 1 n8 x.out,encL 1 n8 x.next]⟩
theorem pure_rspC (x:Rsp):AllPure (cl (encRsp x)):=AllPure.cons (pure_bytes _) (AllPure.cons (pure_bytes _) AllPure.nil)
theorem pure_rsp (x:Rsp):PureV (encRsp x):=PureV.agg (pure_rspC x)
structure SRun where
 circ:Circ
 nets:List Nat
def encRun (x:SRun):Value:=.agg ⟨[FL 4 (x.circ.nodes.map encNode),FL 1 (x.circ.names.map .string),FL 3 (x.circ.mems.map encMem),FL 1 (x.circ.outs.map i64),encL 1 n8 x.nets]⟩
def isHL:Option (Value×Heap)->Nat->Bool
 |some (.tuple ⟨[.int .u64 (.ofNat a),.int .u64 (.ofNat b)]⟩,_),i=>a==0&&b==i
 |_,_=>false
theorem isHL_iff {x:Option (Value×Heap)}{i:Nat} (h:isHL x i=true):∃ h',x=some (.tuple ⟨[n64 0,n64 i]⟩,h'):=by
 unfold isHL at h
 split at h
 ·simp only[Bool.and_eq_true,beq_iff_eq] at h
  obtain⟨rfl,rfl⟩:=h
  exact⟨_,rfl⟩
 ·cases h
theorem flatT2 {a b:Value} (ha:plain a=true) (hb:plain b=true):flatV (.tuple ⟨[a,b]⟩)=true:=by
 simp[flatV,ha,hb]
theorem mul_runs:((List.range 17).all fun i=>isHL (runFn Tryz.prog [] (orcExt Tryz.prog) 60 78 #[n64 1,n64 i] (heapOf vars)) i)=true:=by kernel_rfl
theorem mul_fn {i:Nat} (hi:i<=16):FnV Tryz.prog NG vars 78 ⟨[n64 1,n64 i]⟩ (.tuple ⟨[n64 0,n64 i]⟩):=by
 obtain⟨h',e⟩:=isHL_iff (List.all_eq_true.1 mul_runs i (List.mem_range.2 (by omega)))
 have c:=(runFn_sound hM hP (fun f vs h v e=>orcExt_sound f vs h v e) 60 _ _ _ _ _ e).1
 refine⟨PureV.tup (AllPure.cons (PureV.flat rfl) (AllPure.cons (PureV.flat rfl) AllPure.nil)),fun h b=>c.lift (by simp[n64];exact⟨rfl,rfl⟩) (flatT2 rfl rfl) (bears_vars (hasSize b) (hasVars b))⟩
def bits_Mul_wp (x y:Nat) (K:Nat×Nat->Prop):Prop:=x=1/\y<=16/\K (0,y)
theorem bits_Mul_walk {x y:Nat}{K:Nat×Nat->Prop} (hm:bits_Mul_wp x y K) {h0:Heap} (hB:HasB vars h0):∃ r,K r/\CallD Tryz.prog NG 78 ⟨[n64 x,n64 y]⟩ h0 ((fun (r:(Nat×Nat))=>Value.tuple ⟨[n64 (r.1),n64 (r.2)]⟩) r) h0:=by
 obtain⟨rfl,h,hk⟩:=hm
 exact FnV.walk (enc:=fun (r:(Nat×Nat))=>Value.tuple ⟨[n64 (r.1),n64 (r.2)]⟩) (mul_fn h) hk hB
structure LnZ where
 node:Nat
 pin:Int
deriving DecidableEq
def encLnZ (x:LnZ):Value:=.agg ⟨[i64 x.node,z64 x.pin]⟩
theorem pure_lnZC (x:LnZ):AllPure (cl (encLnZ x)):=AllPure.cons (PureV.flat rfl) (AllPure.cons (PureV.flat rfl) AllPure.nil)
structure Flt where
 model:Nat
 line:LnZ
 value:Nat
 other:Nat
deriving DecidableEq
def encFlt (x:Flt):Value:=.agg ⟨[n8 x.model,i64 x.line.node,z64 x.line.pin,n8 x.value,i64 x.other]⟩
structure LnI where
 node:Int
 pin:Int
deriving DecidableEq
structure FData where
 model:Nat
 node:Nat
 pin:Nat
 other:Nat
 one:Bool
def shI64:Sh:=.int .i64
structure FB (z:FData):Prop where
 model:z.model<256
 node:z.node<256
 pin:z.pin<256
 other:z.other<256
structure N2 where
 a:Nat
 b:Nat
deriving DecidableEq
structure Rul where
 pin:Nat
 out:Nat
structure Sus where
 fault:Nat
 both:Nat
 missed:Nat
 extra:Nat
deriving DecidableEq
def encSus (x:Sus):Value:=.agg ⟨[i64 x.fault,i64 x.both,i64 x.missed,i64 x.extra]⟩
theorem pure_susC (x:Sus):AllPure (cl (encSus x)):=AllPure.cons (PureV.flat rfl) (AllPure.cons (PureV.flat rfl) (AllPure.cons (PureV.flat rfl) (AllPure.cons (PureV.flat rfl) AllPure.nil)))
theorem fwM {f:FuncId}{fn:Func}{c:Code} (hf:Tryz.prog.funcs[f]?=some fn) {vs:Array Value}{h:Heap} (hB:HasB vars h) {R:Type}{enc:R->Value} (hp:∀ r,PureV (enc r)) {r0:R}
  (hk:Own vars h [] h->CodeM Tryz.prog NG c (initEnv fn.ntmps vs) h fun x e1 h1=>match x with
   |.exit _=>False
   |_=>resG Tryz.prog e1 h1 fn.results.toList fun vs=>∃ r,r=r0/\Ext h h1/\∀ h2,Frozen h.size h1 h2->VLe h2 (retV vs) (enc r))
  (hb:fn.body=some c:=by exact rfl) (hs:Nat.ble vs.size fn.ntmps=true:=by exact rfl):CallD Tryz.prog NG f vs h (enc r0) h:=by
 refine fnM hM hf hb (hP _ _ rfl hf) (Nat.le_of_ble_eq_true hs) hB (hp r0) fun O=>(hk O).mono ?_
 intro x e1 h1 k
 cases x with
 |exit id=>exact k.elim
 |normal=>exact resG_mono (fun vs q=>by obtain⟨r,rfl,q⟩:=q;exact q) k
 |ret=>exact resG_mono (fun vs q=>by obtain⟨r,rfl,q⟩:=q;exact q) k
structure FailZ where
 test:Int
 next:Bool
 index:Int
deriving DecidableEq
def encFail (x:FailZ):Value:=.agg ⟨[z64 x.test,.bool x.next,z64 x.index]⟩
theorem pure_failC (x:FailZ):AllPure (cl (encFail x)):=AllPure.cons (PureV.flat rfl) (AllPure.cons (PureV.flat rfl) (AllPure.cons (PureV.flat rfl) AllPure.nil))
theorem sameFail {kd:TypeDesc} (hk:keyKind kd=false) (a b:FailZ):keySame Tryz.prog 76 kd (encFail a) (encFail b)=some (decide (a=b)):=by
 have he:eqAgg Tryz.prog 76 (encFail a) (encFail b)=some ((a.test==b.test)&&((a.next==b.next)&&((a.index==b.index)&&true))):=by kernel_rfl
 have hd:decide (a=b)=((a.test==b.test)&&((a.next==b.next)&&((a.index==b.index)&&true))):=by
  rw[Bool.eq_iff_iff]
  simp only[decide_eq_true_eq,Bool.and_eq_true,beq_iff_eq,Bool.and_true]
  cases a;cases b
  simp
 rw[hd]
 refine keySame_of hk he rfl rfl fun h=>?_
 have:a=b:=by rw[<- hd] at h;exact of_decide_eq_true h
 subst this
 simp[sameCs,sameC,z64]
def shFail:Sh:=.pair shI64 (.pair .bool (.pair shI64 .unit))
theorem fails_arg {l:List shFail.Den}:∃ m:List FailZ,m.length=l.length/\(Sh.slice shFail).cellsF l=[encL 3 encFail m]:=by
 obtain⟨m,_,h2,h3⟩:=list_of (f:=fun x=>elV shFail.one (shFail.cellsF x)) (g:=encFail) (p:=fun _=>True) l fun x hx=>by
  obtain⟨a,b,d,u⟩:=x
  exact⟨⟨a,b,d⟩,trivial,rfl⟩
 refine⟨m,h3,?_⟩
 show [FL 3 (l.map fun x=>elV shFail.one (shFail.cellsF x))]=_
 rw[h2];rfl
theorem logs_arg {l:List (Sh.slice shFail).Den}:∃ m:List (List FailZ),m.length=l.length/\(Sh.slice (Sh.slice shFail)).cellsF l=[encL 1 (encL 3 encFail) m]:=by
 obtain⟨m,_,h2,h3⟩:=list_of (f:=fun x=>elV (Sh.slice shFail).one ((Sh.slice shFail).cellsF x)) (g:=encL 3 encFail) (p:=fun _=>True) l fun x hx=>by
  obtain⟨m,_,h⟩:=fails_arg (l:=x)
  exact⟨m,trivial,by rw[h];rfl⟩
 refine⟨m,h3,?_⟩
 show [FL 1 (l.map fun x=>elV (Sh.slice shFail).one ((Sh.slice shFail).cellsF x))]=_
 rw[h2];rfl
theorem joinP {α:Type}{first:(α->Prop)->Prop}{rest:α->Prop} (P:α->Prop) (h1:∀ k,(∀ a,P a->k a)->first k) (h2:∀ a,P a->rest a):joinW first rest:=h1 rest h2
theorem joinB' {α:Type}{a:α}{first:(α->Prop)->Prop}{rest:α->Prop} (h1:rest a->first rest) (h2:rest a):joinW first rest:=h1 h2
def triN (e d:Nat):Nat:=if e=0 then 3 else if e=1 then min d 2 else 2
def cleanN (v:Nat):Nat:=if 3<v then 2 else v
def drvN (l:List Nat):Option Nat:=l.findIdx? fun v=>v != 3
def busN (l:List Nat):Nat:=match drvN l with
 |none=>3
 |some i=>if (l.contains 0&&l.contains 1)||l.any (fun v=>cleanN v==2) then 2 else l.getD i 0
def evalG (k:Nat) (l:List Nat):Nat:=if k=12 then triN (l.getD 0 0) (l.getD 1 0) else if k=13 then busN l else evalN k l
theorem tri_vc {e d:Nat}{K:Nat->Prop} (h:K (triN e d)):logic_Tri_wp e d K:=by
 unfold logic_Tri_wp logic_Read_wp
 unfold triN at h
 refine⟨fun h1=>?_,fun h1=>⟨fun h2=>?_,fun h2=>?_⟩⟩
 ·rw[if_pos (eq_t.1 h1)] at h;exact h
 ·rw[if_neg (eq_f.1 h1),if_pos (eq_t.1 h2)] at h;exact h
 ·rw[if_neg (eq_f.1 h1),if_neg (eq_f.1 h2)] at h;exact h
theorem nonneg_t (i:Nat):(!ltI (Int.ofNat i) (Int.ofNat 0))=true:=by
 have:ltI (Int.ofNat i) (Int.ofNat 0)=false:=ltZ_f.2 (Int.natCast_nonneg i)
 rw[this];rfl
theorem find_vc {l:List Nat}{p:Nat->Bool}{K:Int->Prop}{body:(Unit->Prop)->Nat->(Nat->Prop)->Prop} (hl:l.length<2 ^ 60)
  (step:∀ k i nx x,l[i]?=some x->(p x=true->K (Int.ofNat i))->(p x=false->i+1<2 ^ 63/\nx (i+1))->body k i nx) (fin:∀ k i nx,l.length<=i->k ()->body k i nx)
  (h1:∀ i,l.findIdx? p=some i->K (Int.ofNat i)) (h2:l.findIdx? p=none->K (Int.negSucc 0)):joinW (fun k1=>loopW (fun v2 nx3=>body k1 v2 nx3) 0) (fun _:Unit=>K (Int.negSucc 0)):=by
 refine joinLoop (fun i=>i<=l.length/\∀ j x,j<i->l[j]?=some x->p x=false) (fun i=>l.length-i) (fun _=>l.findIdx? p=none) ?_ ⟨Nat.zero_le _,fun j x h=>absurd h (Nat.not_lt_zero _)⟩ (fun _ e=>h2 e)
 intro k i nx ⟨hi,hI⟩ hnx hk
 by_cases c:i<l.length
 ·obtain⟨x,hx⟩:=get_lt c
  refine step k i nx x hx (fun e=>h1 i ?_) (fun e=>⟨by omega,hnx (i+1) ⟨c,fun j y hj hy=>?_⟩ (by omega)⟩)
  ·rw[List.findIdx?_eq_some_iff_getElem]
   obtain⟨q1,q2⟩:=List.getElem?_eq_some_iff.1 hx
   refine⟨q1,by rw[q2];exact e,fun j hj=>?_⟩
   have:=hI j _ hj (List.getElem?_eq_getElem (by omega))
   simp[this]
  ·by_cases q:j=i
   ·subst q;rw[hx] at hy;cases hy;exact e
   ·exact hI j y (by omega) hy
 ·refine fin k i nx (by omega) (hk () ?_)
  rw[List.findIdx?_eq_none_iff]
  intro x m
  obtain⟨j,hj,rfl⟩:=List.getElem_of_mem m
  exact hI j _ (by omega) (List.getElem?_eq_getElem hj)
theorem driven_vc {l:List Nat}{K:Int->Prop} (hl:l.length<2 ^ 60) (h1:∀ i,drvN l=some i->K (Int.ofNat i)) (h2:drvN l=none->K (Int.negSucc 0)):if_driven_wp l K:=by
 unfold if_driven_wp
 refine find_vc (l:=l) (p:=fun v=>v != 3) hl ?_ ?_ h1 h2
 ·intro k i nx x hx a b
  exact⟨fun _=>⟨x,hx,fun e=>a (by simpa using ne_t.1 e),fun e=>b (by simpa using ne_f.1 e)⟩,fun e=>absurd (lt_of_get hx) (by have:=lt_f.1 e;omega)⟩
 ·intro k i nx hi hk
  exact⟨fun e=>absurd (lt_t.1 e) (by omega),fun _=>hk⟩
theorem clean_vc {v:Nat}{K:Nat->Prop} (h:K (cleanN v)):logic_Clean_wp v K:=by
 unfold logic_Clean_wp
 unfold cleanN at h
 refine⟨fun e=>?_,fun e=>?_⟩
 ·rw[if_pos (lt_t.1 e)] at h;exact h
 ·rw[if_neg (Nat.not_lt.2 (lt_f.1 e))] at h;exact h
theorem any_find {l:List Nat}{p:Nat->Bool}:(∀ i,l.findIdx? p=some i->l.any p=true)/\(l.findIdx? p=none->l.any p=false):=by
 refine⟨fun i h=>?_,fun h=>?_⟩
 ·rw[List.findIdx?_eq_some_iff_getElem] at h
  obtain⟨h1,h2,_⟩:=h
  exact List.any_eq_true.2 ⟨_,List.getElem_mem h1,h2⟩
 ·rw[List.findIdx?_eq_none_iff] at h
  exact List.any_eq_false.2 fun x m=>by simp[h x m]
theorem unknown_vc {l:List Nat}{K:Bool->Prop} (hl:l.length<2 ^ 60) (h:K (l.any fun v=>cleanN v==2)):cf_unknown_wp l K:=by
 unfold cf_unknown_wp cf_unknownI_wp
 refine find_vc (l:=l) (p:=fun v=>cleanN v==2) (K:=fun r=>K (!ltI r (Int.ofNat 0))) hl ?_ ?_ (fun i e=>?_) (fun e=>?_)
 ·intro k i nx x hx a b
  exact⟨fun _=>⟨x,hx,clean_vc ⟨fun e=>a (by simpa using eq_t.1 e),fun e=>b (by simpa using eq_f.1 e)⟩⟩,fun e=>absurd (lt_of_get hx) (by have:=lt_f.1 e;omega)⟩
 ·intro k i nx hi hk
  exact⟨fun e=>absurd (lt_t.1 e) (by omega),fun _=>hk⟩
 ·rw[nonneg_t]
  rw[any_find.1 i e] at h;exact h
 ·rw[any_find.2 e] at h;exact h
theorem containsV_vc {l:List Nat}{x:Nat}{K:Bool->Prop} (hl:l.length<2 ^ 60) (h:K (l.contains x)):sl_ContainsV_wp l x K:=by
 unfold sl_ContainsV_wp sl_IndexV_wp
 have hc:l.contains x=l.any fun v=>x==v:=by
  rw[List.contains_eq_any_beq]
 rw[hc] at h
 refine find_vc (l:=l) (p:=fun v=>x==v) (K:=fun r=>K (!ltI r (Int.ofNat 0))) hl ?_ ?_ (fun i e=>?_) (fun e=>?_)
 ·intro k i nx y hy a b
  exact⟨fun _=>⟨y,hy,fun e=>a (by simpa using eq_t.1 e),fun e=>b (by simpa using eq_f.1 e)⟩,fun e=>absurd (lt_of_get hy) (by have:=lt_f.1 e;omega)⟩
 ·intro k i nx hi hk
  exact⟨fun e=>absurd (lt_t.1 e) (by omega),fun _=>hk⟩
 ·rw[nonneg_t]
  rw[any_find.1 i e] at h;exact h
 ·rw[any_find.2 e] at h;exact h
theorem bus_vc {l:List Nat}{K:Nat->Prop} (hl:l.length<2 ^ 60) (h:K (busN l)):logic_Bus_wp l K:=by
 unfold logic_Bus_wp
 unfold busN at h
 refine driven_vc hl (fun i e=>?_) (fun e=>?_)
 ·rw[e] at h
  dsimp only at h
  refine⟨fun q=>absurd (ltZ_t.1 q) (by simp only[Int.ofNat_eq_natCast];omega),fun _=>?_⟩
  have hi:i<l.length:=(List.findIdx?_eq_some_iff_getElem.1 e).1
  refine joinP (fun b=>b=((l.contains 0&&l.contains 1)||l.any fun v=>cleanN v==2)) (fun k hk=>?_) ?_
  ·unfold logic_Conflict_wp
   refine containsV_vc hl ⟨fun e0=>containsV_vc hl ⟨fun e1=>hk _ ?_,fun e1=>unknown_vc hl (hk _ ?_)⟩,fun e0=>⟨(fun e=>by cases e),fun _=>unknown_vc hl (hk _ ?_)⟩⟩
   ·rw[e0,e1];rfl
   ·rw[e0,e1];rfl
   ·rw[e0];rfl
  ·rintro b rfl
   refine⟨fun q=>?_,fun q=>⟨i,rfl,_,getD_some hi,?_⟩⟩
   ·rw[if_pos q] at h;exact h
   ·rw[if_neg (by rw[q];decide)] at h;exact h
 ·rw[e] at h
  exact⟨fun _=>h,fun q=>by cases q⟩
theorem arity_tri {n:Nat} (h:Arity 12 n):n=2:=by
 obtain⟨h1,h2⟩:=h
 have e1:loN 12=2:=by decide
 have e2:hiZ 12=2:=by decide
 rw[e1] at h1;rw[e2] at h2
 simp only[Int.ofNat_eq_natCast] at h2;omega
theorem arity_dff {n:Nat} (h:Arity 14 n):n=1:=by
 obtain⟨h1,h2⟩:=h
 have e1:loN 14=1:=by decide
 have e2:hiZ 14=1:=by decide
 rw[e1] at h1;rw[e2] at h2
 simp only[Int.ofNat_eq_natCast] at h2;omega
theorem evalG_vc {k:Nat}{l:List Nat}{K:Nat->Prop} (hk0:1<=k) (hk:k<14) (ha:Arity k l.length) (hl:l.length<2 ^ 60) (h:K (evalG k l)):logic_Eval_wp k l K:=by
 by_cases h12:k<12
 ·unfold evalG at h
  rw[if_neg (by omega),if_neg (by omega)] at h
  exact eval_vc hk0 h12 ha hl h
 unfold logic_Eval_wp
 refine fanin_vc (by omega) ?_
 refine joinI ?_
 refine⟨fun h1=>?_,fun h1=>?_⟩
 ·have:=lt_t.1 h1;have:=ha.1;simp only at *;omega
 ·have e:ltI (hiZ k) (Int.ofNat l.length)=false:=ltZ_f.2 ha.2
  show (ltI (hiZ k) (Int.ofNat l.length)=true->_)/\_
  rw[e]
  refine⟨(fun hc=>by cases hc),fun _=>?_⟩
  unfold evalG at h
  refine⟨fun c=>absurd (eq_t.1 c) (by omega),fun _=>⟨fun c=>absurd (eq_t.1 c) (by omega),fun _=>⟨fun c=>absurd (eq_t.1 c) (by omega),fun _=>⟨fun c=>absurd (eq_t.1 c) (by omega),fun _=>⟨fun c=>absurd (eq_t.1 c) (by omega),fun _=>⟨fun c=>absurd (eq_t.1 c) (by omega),fun _=>⟨fun c=>absurd (eq_t.1 c) (by omega),fun _=>⟨fun c=>absurd (eq_t.1 c) (by omega),fun _=>⟨fun c=>absurd (eq_t.1 c) (by omega),fun _=>⟨fun c=>absurd (eq_t.1 c) (by omega),fun _=>⟨fun c=>absurd (eq_t.1 c) (by omega),fun _=>⟨fun c=>?_,fun c1=>⟨fun c=>?_,fun c2=>?_⟩⟩⟩⟩⟩⟩⟩⟩⟩⟩⟩⟩⟩
  ·have c:=eq_t.1 c;subst c
   have:=arity_tri ha
   exact⟨_,getD_some (by omega),_,getD_some (by omega),tri_vc h⟩
  ·have c:=eq_t.1 c;subst c
   exact bus_vc hl h
  ·have a1:=eq_f.1 c1;have a2:=eq_f.1 c2;omega
theorem evalN_le (k:Nat) (l:List Nat):evalN k l<=2:=by
 have hn:∀ v,notN v<=2:=fun v=>by unfold notN;split <;> omega
 have hx:∀ (l:List Nat) (o:Nat),o<=1->xorN l o<=2:=by
  intro l
  induction l with
  |nil=>intro o ho;unfold xorN;omega
  |cons v r ih =>
   intro o ho
   unfold xorN
   split
   ·refine ih _ ?_
    have q1:o=0\/o=1:=by omega
    have q2:v=0\/v=1:=by omega
    rcases q1 with rfl|rfl <;> rcases q2 with rfl|rfl <;> decide
   ·omega
 have hd:∀ (low high:Nat) (l:List Nat) (o:Nat),low<=2->o<=2->decN low high l o<=2:=by
  intro low high l
  induction l with
  |nil=>intro o h1 h2;exact h2
  |cons v r ih =>
   intro o h1 h2
   unfold decN
   split
   ·exact h1
   ·refine ih _ h1 ?_
    split
    ·exact h2
    ·omega
 unfold evalN
 repeat' split
 all_goals first|omega|exact hn _|exact hd _ _ _ _ (by decide) (by decide) | exact hx _ _ (by decide) | (unfold muxN;repeat' split) <;> omega
theorem evalG_le (k:Nat) {l:List Nat} (hl:∀ v∈l,v<=3):evalG k l<=3:=by
 unfold evalG
 split
 ·unfold triN;repeat' split
  all_goals omega
 split
 ·unfold busN
  split
  ·omega
  ·split
   ·omega
   ·rename_i i hi _
    obtain⟨h1,h2,_⟩:=List.findIdx?_eq_some_iff_getElem.1 hi
    rw[List.getD,List.getElem?_eq_getElem h1]
    exact hl _ (List.getElem_mem h1)
 ·have:=evalN_le k l;omega
structure GK (ks:List Nat) (x:Node):Prop where
 kind1:1<=x.kind
 kind:x.kind<=13
 arity:Arity x.kind x.ins.length
 ins:∀ k∈x.ins,k<ks.length
 bus:x.kind=13->∀ k∈x.ins,ks.getD k 0=12
 mem:x.mem=0
 bit:x.bit=0
theorem getD_mem {l:List Nat}{i:Nat} (h:i<l.length):l.getD i 0∈l:=by
 rw[List.getD,List.getElem?_eq_getElem h]
 exact List.getElem_mem h
set_option maxHeartbeats 8000000
def netlists_Inputs_wp (p0:Circ) (K:(List Nat)->Prop):Prop :=
 netlists_Of_wp p0 ([0]:(List Nat)) (fun r1=>K r1)
theorem netlists_Inputs_walk {p0:Circ}{K:(List Nat)->Prop} (hm:netlists_Inputs_wp p0 K) {h0:Heap} (hB:HasB vars h0):∃ r,K r/\CallD Tryz.prog NG 60 ⟨[encCirc p0]⟩ h0 ((encL 1 i64) r) h0:=by
 unfold netlists_Inputs_wp at hm
 refine fw Tryz.func60 hB (enc:=(encL 1 i64)) (fun r=>pureL (fun _=>AllPure.cons (PureV.flat rfl) AllPure.nil)) fun O=>?_;conv=>whnf
 refine gX ?_
 refine fz ?_;refine gX ?_
 refine fz ?_;refine gH ?_
 refine ca (netlists_Of_walk hm O.has) fun r1 hm=>?_;refine gX ?_
 exact fe hm O
def netlists_States_wp (p0:Circ) (K:(List Nat)->Prop):Prop :=
 netlists_Of_wp p0 ([14]:(List Nat)) (fun r1=>K r1)
theorem netlists_States_walk {p0:Circ}{K:(List Nat)->Prop} (hm:netlists_States_wp p0 K) {h0:Heap} (hB:HasB vars h0):∃ r,K r/\CallD Tryz.prog NG 20 ⟨[encCirc p0]⟩ h0 ((encL 1 i64) r) h0:=by
 unfold netlists_States_wp at hm
 refine fw Tryz.func20 hB (enc:=(encL 1 i64)) (fun r=>pureL (fun _=>AllPure.cons (PureV.flat rfl) AllPure.nil)) fun O=>?_;conv=>whnf
 refine gX ?_
 refine fz ?_;refine gX ?_
 refine fz ?_;refine gH ?_
 refine ca (netlists_Of_walk hm O.has) fun r1 hm=>?_;refine gX ?_
 exact fe hm O
def cf_simsAboveI_wp (p0:(List Nat)) (K:Int->Prop):Prop :=
 joinW (α:=Unit) (fun k1=>loopW (S:=Nat) (fun v2 nx3=>((ltN v2 p0.length)=true->∃ x4,p0[v2]?=some x4/\((ltN 3 x4)=true->K (Int.ofNat v2))/\((ltN 3 x4)=false->v2+1<2 ^ 63/\nx3 (v2+1)))/\((ltN v2 p0.length)=false->k1 ())) 0) (fun _=>K (Int.negSucc 0))
theorem cf_simsAboveI_walk {p0:(List Nat)}{K:Int->Prop} (hm:cf_simsAboveI_wp p0 K) {h0:Heap} (hB:HasB vars h0):∃ r,K r/\CallD Tryz.prog NG 101 ⟨[(encL 1 n8) p0,(.func (.func 62) ⟨[]⟩ ⟨[]⟩)]⟩ h0 (z64 r) h0:=by
 unfold cf_simsAboveI_wp at hm
 refine fw Tryz.func101 hB (enc:=z64) (fun r=>PureV.flat rfl) fun O=>?_;conv=>whnf
 apply Cs;conv=>whnf
 apply Cs;refine gH ?_
 refine jn hm 19 [] (fun s=>s) (fun _ h=>Own vars h0 [] h) (fun _=>[]) (fun hm=>?_) ?_
 ·refine gX ?_
  refine lw 19 [0,1,7] (σ:=Nat) (fun s=>s) (fun v2 h=>Own vars h0 [] h) (fun v2=>[(8,(i64 v2))]) 0 hm O ?_
  clear hm;rintro v2 nx3 base h hm O
  refine gX ?_
  refine br hm (fun hm=>?_) fun hm=>?_
  ·refine gX ?_
   refine atF hm fun x4 hx4 hm=>?_;refine gH ?_
   refine fg Tryz.func62 ?_;refine gX ?_
   refine br hm (fun hm=>?_) fun hm=>?_
   ·refine gX ?_
    exact fe hm O
   ·refine gX ?_
    refine aAdd hm fun hm=>?_;refine gH ?_
    exact jx (v2+1) hm O
  ·refine gX ?_
   exact jx () hm O
 ·clear hm;rintro _ base h hm O
  refine gX ?_
  exact fe hm O
def cf_simsAbove_wp (p0:(List Nat)) (K:Bool->Prop):Prop :=
 cf_simsAboveI_wp p0 (fun r1=>K (!ltI r1 (Int.ofNat 0)))
theorem cf_simsAbove_walk {p0:(List Nat)}{K:Bool->Prop} (hm:cf_simsAbove_wp p0 K) {h0:Heap} (hB:HasB vars h0):∃ r,K r/\CallD Tryz.prog NG 61 ⟨[(encL 1 n8) p0,(.func (.func 62) ⟨[]⟩ ⟨[]⟩)]⟩ h0 (Value.bool r) h0:=by
 unfold cf_simsAbove_wp at hm
 refine fw Tryz.func61 hB (enc:=Value.bool) (fun r=>PureV.flat rfl) fun O=>?_;conv=>whnf
 refine gX ?_
 refine ca (cf_simsAboveI_walk hm O.has) fun r1 hm=>?_;refine gX ?_
 exact fe hm O
def run_value_wp (p0:SRun) (p1:Nat) (K:Nat->Prop):Prop :=
 joinW (α:=Bool) (fun k2=>((ltN p1 0)=true->k2 true)/\((ltN p1 0)=false->k2 (!ltN p1 p0.nets.length))) (fun v1=>(v1=true->K 2)/\(v1=false->∃ x3,p0.nets[p1]?=some x3/\logic_Clean_wp x3 (fun r4=>K r4)))
theorem run_value_walk {p0:SRun}{p1:Nat}{K:Nat->Prop} (hm:run_value_wp p0 p1 K) {h0:Heap} (hB:HasB vars h0):∃ r,K r/\CallD Tryz.prog NG 72 ⟨[encRun p0,i64 p1]⟩ h0 (n8 r) h0:=by
 unfold run_value_wp at hm
 refine fw Tryz.func72 hB (enc:=n8) (fun r=>PureV.flat rfl) fun O=>?_;conv=>whnf
 refine gX ?_
 refine fz ?_;refine gH ?_
 apply Cs;conv=>whnf
 refine jn hm 20 [1,2] (fun s=>s) (fun v1 h=>Own vars h0 [] h) (fun v1=>[(13,(.bool v1))]) (fun hm=>?_) ?_
 ·refine gX ?_
  refine br hm (fun hm=>?_) fun hm=>?_
  ·refine gX ?_
   exact jx true hm O
  ·refine gX ?_
   exact jx (!ltN p1 p0.nets.length) hm O
 ·clear hm;rintro v1 base h hm O
  refine gX ?_
  refine br hm (fun hm=>?_) fun hm=>?_
  ·refine gX ?_
   exact fe hm O
  ·refine gX ?_
   refine atF hm fun x3 hx3 hm=>?_;refine gH ?_
   refine ca (logic_Clean_walk hm O.has) fun r4 hm=>?_;refine gX ?_
   exact fe hm O
def run_observe_wp (p0:SRun) (K:Rsp->Prop):Prop :=
 joinW (α:=(List Nat)) (fun k12=>loopW (S:=((List Nat)×Nat)) (fun (v14,v15) nx17=>((ltN v15 p0.circ.outs.length)=true->∃ x18,p0.circ.outs[v15]?=some x18/\run_value_wp p0 x18 (fun r19=>(v14.length+([r19]:(List Nat)).length)*1<=2 ^ 47/\v15+1<2 ^ 63/\nx17 ((v14++([r19]:(List Nat))),(v15+1))))/\((ltN v15 p0.circ.outs.length)=false->k12 v14)) (([]:List Nat),0)) (fun v10=>joinW (α:=(List Nat)) (fun k28=>netlists_States_wp p0.circ (fun r29=>loopW (S:=((List Nat)×Nat)) (fun (v31,v32) nx35=>((ltN v32 r29.length)=true->∃ x36,r29[v32]?=some x36/\joinW (α:=Nat) (fun k40=>∃ x41,p0.circ.nodes[x36]?=some x41/\((eqN x41.ins.length 1)=true->∃ x42,x41.ins[0]?=some x42/\run_value_wp p0 x42 (fun r43=>logic_Read_wp r43 (fun r44=>k40 r44)))/\((eqN x41.ins.length 1)=false->k40 2)) (fun v37=>(v31.length+([v37]:(List Nat)).length)*1<=2 ^ 47/\v32+1<2 ^ 63/\nx35 ((v31++([v37]:(List Nat))),(v32+1))))/\((ltN v32 r29.length)=false->k28 v31)) (([]:List Nat),0))) (fun v25=>K (⟨v10,v25⟩:Rsp)))
theorem run_observe_walk {p0:SRun}{K:Rsp->Prop} (hm:run_observe_wp p0 K) {h0:Heap} (hB:HasB vars h0):∃ r,K r/\CallD Tryz.prog NG 39 ⟨[encRun p0]⟩ h0 (encRsp r) h0:=by
 unfold run_observe_wp at hm
 refine fw Tryz.func39 hB (enc:=encRsp) (fun r=>pure_rsp _) fun O=>?_;conv=>whnf
 refine gX ?_
 refine fz ?_;refine gH ?_
 have O:=O.addNil (.cells (flatC ((([]:List Nat)).map n8)) false)
 have O:=O.addNil (.cells (flatC ((([]:List Nat)).map n8)) false)
 (first|refine O.new (anew_alloc (l:=[(.slice none 0 0),(.slice none 0 0)]) rfl rfl rfl) fun g1 h O=>?_|refine O.newX (anew_alloc (l:=[(.slice none 0 0),(.slice none 0 0)]) rfl rfl rfl) fun g1 h O=>?_);refine gH ?_
 refine gX ?_
 have O:=O.addNil (.cells (flatC ((([]:List Nat)).map n8)) false)
 have O:=O.addNil (.cells (flatC ((([]:List Nat)).map n8)) false)
 (first|refine O.new (anew_alloc (l:=[(.slice none 0 0),(.slice none 0 0)]) rfl rfl rfl) fun g5 h O=>?_|refine O.newX (anew_alloc (l:=[(.slice none 0 0),(.slice none 0 0)]) rfl rfl rfl) fun g5 h O=>?_);refine gH ?_
 refine jn (σ:=(List Nat)×Option Nat) hm 65 [1,2,3] (fun s=>s.1) (fun (v10,a9) h=>(a9=none->v10=[])/\Own vars h0 [((some g1),.cells [(growV 1 none (([]:List Nat).map n8)),(growV 1 none (([]:List Nat).map n8))] false),(none,.cells (flatC (([]:List Nat).map n8)) false),(none,.cells (flatC (([]:List Nat).map n8)) false),((some g5),.cells [(growV 1 a9 (v10.map n8)),(growV 1 none (([]:List Nat).map n8))] false),(a9,.cells (flatC (v10.map n8)) false),(none,.cells (flatC (([]:List Nat).map n8)) false)] h) (fun (v10,a9)=>[]) (fun hm=>?_) ?_
 ·refine gX ?_
  refine lw 65 [1,2,3,12,13] (σ:=((List Nat)×Nat)×Option Nat) (fun s=>s.1) (fun ((v14,v15),a13) h=>(a13=none->v14=[])/\Own vars h0 [((some g1),.cells [(growV 1 none (([]:List Nat).map n8)),(growV 1 none (([]:List Nat).map n8))] false),(none,.cells (flatC (([]:List Nat).map n8)) false),(none,.cells (flatC (([]:List Nat).map n8)) false),((some g5),.cells [(growV 1 a13 (v14.map n8)),(growV 1 none (([]:List Nat).map n8))] false),(a13,.cells (flatC (v14.map n8)) false),(none,.cells (flatC (([]:List Nat).map n8)) false)] h) (fun ((v14,v15),a13)=>[(14,(i64 v15))]) ((([]:List Nat),0),none) hm ⟨(fun _=>rfl),(O.sel [3,5,4,0,2,1] (by decide))⟩ ?_
  clear hm;rintro⟨⟨v14,v15⟩,a13⟩ nx17 base h hm ⟨ha16,O⟩
  refine gX ?_
  refine br hm (fun hm=>?_) fun hm=>?_
  ·refine gX ?_
   refine atF hm fun x18 hx18 hm=>?_;refine gX ?_
   refine ldO (O.at (.tail _ (.tail _ (.tail _ (.head _))))) ?_;refine gH ?_
   first|refine⟨.inr (.inr (loadK rfl (O.at (.tail _ (.tail _ (.tail _ (.head _))))) rfl rfl)),?_⟩|refine⟨.inr (.inl (by kernel_rfl)),?_⟩
   refine gX ?_
   first|refine⟨.inr (.inr (rfl)),?_⟩|refine⟨.inr (.inl (by kernel_rfl)),?_⟩
   refine gX ?_
   refine ca (run_value_walk hm O.has) fun r19 hm=>?_;refine gH ?_
   (first|refine⟨.inr (.inr (loadK rfl (O.at (.head _)) rfl rfl)),?_⟩|refine⟨.inr (.inr (loadK rfl (O.at (.tail _ (.head _))) rfl rfl)),?_⟩|refine⟨.inr (.inr (loadK rfl (O.at (.tail _ (.tail _ (.head _)))) rfl rfl)),?_⟩|refine⟨.inr (.inr (loadK rfl (O.at (.tail _ (.tail _ (.tail _ (.head _))))) rfl rfl)),?_⟩|refine⟨.inr (.inr (loadK rfl (O.at (.tail _ (.tail _ (.tail _ (.tail _ (.head _)))))) rfl rfl)),?_⟩|refine⟨.inr (.inr (loadK rfl (O.at (.tail _ (.tail _ (.tail _ (.tail _ (.tail _ (.head _))))))) rfl rfl)),?_⟩|refine⟨.inr (.inr (loadK rfl (O.at (.tail _ (.tail _ (.tail _ (.tail _ (.tail _ (.tail _ (.head _)))))))) rfl rfl)),?_⟩|refine⟨.inl (Ext.refl _),?_⟩|refine⟨.inr (.inr rfl),?_⟩|refine⟨.inr (by kernel_rfl),?_⟩|refine⟨.inl (by kernel_rfl),?_⟩|refine id ?_);refine gH ?_
   refine O.buildLX (l:=([r19]:(List Nat))) (enc:=n8) (s:=1) (z:=(n8 0)) rfl rfl (by kernel_rfl) (by kernel_rfl) rfl rfl rfl rfl (fun _=>rfl) fun g20 h O=>?_;refine gH ?_
   refine O.appendL (enc:=n8) (l:=v14) (new:=([r19]:(List Nat))) (s:=1) (b:=1) (.tail _ (.tail _ (.tail _ (.tail _ (.tail _ (.head _)))))) ha16 rfl rfl rfl rfl rfl rfl rfl rfl (YOk.own (O.at (.head _)) rfl (fun _=>rfl) rfl) (fun _=>rfl) (fun _=>rfl) (by decide) hm.1 fun a22 h ha23 O=>?_;refine gH ?_
   (first|refine⟨.inr (.inr (loadK rfl (O.at (.head _)) rfl rfl)),?_⟩|refine⟨.inr (.inr (loadK rfl (O.at (.tail _ (.head _))) rfl rfl)),?_⟩|refine⟨.inr (.inr (loadK rfl (O.at (.tail _ (.tail _ (.head _)))) rfl rfl)),?_⟩|refine⟨.inr (.inr (loadK rfl (O.at (.tail _ (.tail _ (.tail _ (.head _))))) rfl rfl)),?_⟩|refine⟨.inr (.inr (loadK rfl (O.at (.tail _ (.tail _ (.tail _ (.tail _ (.head _)))))) rfl rfl)),?_⟩|refine⟨.inr (.inr (loadK rfl (O.at (.tail _ (.tail _ (.tail _ (.tail _ (.tail _ (.head _))))))) rfl rfl)),?_⟩|refine⟨.inr (.inr (loadK rfl (O.at (.tail _ (.tail _ (.tail _ (.tail _ (.tail _ (.tail _ (.head _)))))))) rfl rfl)),?_⟩|refine⟨.inl (Ext.refl _),?_⟩|refine⟨.inr (.inr rfl),?_⟩|refine⟨.inr (by kernel_rfl),?_⟩|refine⟨.inl (by kernel_rfl),?_⟩|refine id ?_);refine gH ?_
   replace hm:=hm.2
   refine O.stC 1 (.tail _ (.tail _ (.tail _ (.tail _ (.head _))))) [(growV 1 a22 ((v14++([r19]:(List Nat))).map n8)),(growV 1 none (([]:List Nat).map n8))] fun h O=>?_;refine gH ?_
   (first|refine⟨.inr (.inr (loadK rfl (O.at (.head _)) rfl rfl)),?_⟩|refine⟨.inr (.inr (loadK rfl (O.at (.tail _ (.head _))) rfl rfl)),?_⟩|refine⟨.inr (.inr (loadK rfl (O.at (.tail _ (.tail _ (.head _)))) rfl rfl)),?_⟩|refine⟨.inr (.inr (loadK rfl (O.at (.tail _ (.tail _ (.tail _ (.head _))))) rfl rfl)),?_⟩|refine⟨.inr (.inr (loadK rfl (O.at (.tail _ (.tail _ (.tail _ (.tail _ (.head _)))))) rfl rfl)),?_⟩|refine⟨.inr (.inr (loadK rfl (O.at (.tail _ (.tail _ (.tail _ (.tail _ (.tail _ (.head _))))))) rfl rfl)),?_⟩|refine⟨.inr (.inr (loadK rfl (O.at (.tail _ (.tail _ (.tail _ (.tail _ (.tail _ (.tail _ (.head _)))))))) rfl rfl)),?_⟩|refine⟨.inl (Ext.refl _),?_⟩|refine⟨.inr (.inr rfl),?_⟩|refine⟨.inr (by kernel_rfl),?_⟩|refine⟨.inl (by kernel_rfl),?_⟩|refine id ?_);refine gH ?_
   refine gX ?_
   refine aAdd hm fun hm=>?_;refine gH ?_
   exact jx (((v14++([r19]:(List Nat))),(v15+1)),a22) hm ⟨ha23,(O.sel [1,2,3,4,5,6] (by decide))⟩
  ·refine gX ?_
   exact jx (v14,a13) hm ⟨ha16,O⟩
 ·clear hm;rintro⟨v10,a9⟩ base h hm ⟨ha11,O⟩
  conv=>whnf
  refine jn (σ:=(List Nat)×Option Nat) hm 65 [2,3] (fun s=>s.1) (fun (v25,a24) h=>(a9=none->v10=[])/\(a24=none->v25=[])/\Own vars h0 [((some g1),.cells [(growV 1 none (([]:List Nat).map n8)),(growV 1 none (([]:List Nat).map n8))] false),(none,.cells (flatC (([]:List Nat).map n8)) false),(none,.cells (flatC (([]:List Nat).map n8)) false),((some g5),.cells [(growV 1 a9 (v10.map n8)),(growV 1 a24 (v25.map n8))] false),(a9,.cells (flatC (v10.map n8)) false),(a24,.cells (flatC (v25.map n8)) false)] h) (fun (v25,a24)=>[]) (fun hm=>?_) ?_
  ·refine gX ?_
   refine ca (netlists_States_walk hm O.has) fun r29 hm=>?_;refine gX ?_
   refine lw 65 [1,2,3,29,30] (σ:=((List Nat)×Nat)×Option Nat) (fun s=>s.1) (fun ((v31,v32),a30) h=>(a9=none->v10=[])/\(a30=none->v31=[])/\Own vars h0 [((some g1),.cells [(growV 1 none (([]:List Nat).map n8)),(growV 1 none (([]:List Nat).map n8))] false),(none,.cells (flatC (([]:List Nat).map n8)) false),(none,.cells (flatC (([]:List Nat).map n8)) false),((some g5),.cells [(growV 1 a9 (v10.map n8)),(growV 1 a30 (v31.map n8))] false),(a9,.cells (flatC (v10.map n8)) false),(a30,.cells (flatC (v31.map n8)) false)] h) (fun ((v31,v32),a30)=>[(31,(i64 v32))]) ((([]:List Nat),0),none) hm ⟨ha11,(fun _=>rfl),O⟩ ?_
   clear hm;rintro⟨⟨v31,v32⟩,a30⟩ nx35 base h hm ⟨ha33,ha34,O⟩
   refine gX ?_
   refine br hm (fun hm=>?_) fun hm=>?_
   ·refine gX ?_
    refine atF hm fun x36 hx36 hm=>?_;refine gH ?_
    apply Cs;conv=>whnf
    apply Cs;refine gH ?_
    refine jn hm 65 [1,2,3,29,30,31] (fun s=>s) (fun v37 h=>(a9=none->v10=[])/\(a30=none->v31=[])/\Own vars h0 [((some g1),.cells [(growV 1 none (([]:List Nat).map n8)),(growV 1 none (([]:List Nat).map n8))] false),(none,.cells (flatC (([]:List Nat).map n8)) false),(none,.cells (flatC (([]:List Nat).map n8)) false),((some g5),.cells [(growV 1 a9 (v10.map n8)),(growV 1 a30 (v31.map n8))] false),(a9,.cells (flatC (v10.map n8)) false),(a30,.cells (flatC (v31.map n8)) false)] h) (fun v37=>[(8,(n8 v37))]) (fun hm=>?_) ?_
    ·refine gX ?_
     refine atF hm fun x41 hx41 hm=>?_;refine gX ?_
     refine br hm (fun hm=>?_) fun hm=>?_
     ·refine gX ?_
      first|refine⟨.inr (.inr (rfl)),?_⟩|refine⟨.inr (.inl (by kernel_rfl)),?_⟩
      refine gX ?_
      refine atF hm fun x42 hx42 hm=>?_;refine gH ?_
      refine ca (run_value_walk hm O.has) fun r43 hm=>?_;refine gH ?_
      (first|refine⟨.inr (.inr (loadK rfl (O.at (.head _)) rfl rfl)),?_⟩|refine⟨.inr (.inr (loadK rfl (O.at (.tail _ (.head _))) rfl rfl)),?_⟩|refine⟨.inr (.inr (loadK rfl (O.at (.tail _ (.tail _ (.head _)))) rfl rfl)),?_⟩|refine⟨.inr (.inr (loadK rfl (O.at (.tail _ (.tail _ (.tail _ (.head _))))) rfl rfl)),?_⟩|refine⟨.inr (.inr (loadK rfl (O.at (.tail _ (.tail _ (.tail _ (.tail _ (.head _)))))) rfl rfl)),?_⟩|refine⟨.inr (.inr (loadK rfl (O.at (.tail _ (.tail _ (.tail _ (.tail _ (.tail _ (.head _))))))) rfl rfl)),?_⟩|refine⟨.inr (.inr (loadK rfl (O.at (.tail _ (.tail _ (.tail _ (.tail _ (.tail _ (.tail _ (.head _)))))))) rfl rfl)),?_⟩|refine⟨.inl (Ext.refl _),?_⟩|refine⟨.inr (.inr rfl),?_⟩|refine⟨.inr (by kernel_rfl),?_⟩|refine⟨.inl (by kernel_rfl),?_⟩|refine id ?_);refine gH ?_
      refine ca (logic_Read_walk hm O.has) fun r44 hm=>?_;refine gH ?_
      (first|refine⟨.inr (.inr (loadK rfl (O.at (.head _)) rfl rfl)),?_⟩|refine⟨.inr (.inr (loadK rfl (O.at (.tail _ (.head _))) rfl rfl)),?_⟩|refine⟨.inr (.inr (loadK rfl (O.at (.tail _ (.tail _ (.head _)))) rfl rfl)),?_⟩|refine⟨.inr (.inr (loadK rfl (O.at (.tail _ (.tail _ (.tail _ (.head _))))) rfl rfl)),?_⟩|refine⟨.inr (.inr (loadK rfl (O.at (.tail _ (.tail _ (.tail _ (.tail _ (.head _)))))) rfl rfl)),?_⟩|refine⟨.inr (.inr (loadK rfl (O.at (.tail _ (.tail _ (.tail _ (.tail _ (.tail _ (.head _))))))) rfl rfl)),?_⟩|refine⟨.inr (.inr (loadK rfl (O.at (.tail _ (.tail _ (.tail _ (.tail _ (.tail _ (.tail _ (.head _)))))))) rfl rfl)),?_⟩|refine⟨.inl (Ext.refl _),?_⟩|refine⟨.inr (.inr rfl),?_⟩|refine⟨.inr (by kernel_rfl),?_⟩|refine⟨.inl (by kernel_rfl),?_⟩|refine id ?_);refine gH ?_
      exact jx r44 hm ⟨ha33,ha34,O⟩
     ·refine gX ?_
      exact jx 2 hm ⟨ha33,ha34,O⟩
    ·clear hm;rintro v37 base h hm ⟨ha38,ha39,O⟩
     refine gX ?_
     refine ldO (O.at (.tail _ (.tail _ (.tail _ (.head _))))) ?_;refine gH ?_
     refine fz ?_;refine gH ?_
     refine O.apL (enc:=n8) (l:=v31) (new:=([v37]:(List Nat))) 1 (.tail _ (.tail _ (.tail _ (.tail _ (.tail _ (.head _)))))) ha39 hm fun a45 h ha46 O hm=>?_;refine gH ?_
     refine O.stC 1 (.tail _ (.tail _ (.tail _ (.head _)))) [(growV 1 a9 (v10.map n8)),(growV 1 a45 ((v31++([v37]:(List Nat))).map n8))] fun h O=>?_;refine gX ?_
     refine aAdd hm fun hm=>?_;refine gH ?_
     exact jx (((v31++([v37]:(List Nat))),(v32+1)),a45) hm ⟨ha38,ha46,O⟩
   ·refine gX ?_
    exact jx (v31,a30) hm ⟨ha33,ha34,O⟩
  ·clear hm;rintro⟨v25,a24⟩ base h hm ⟨ha26,ha27,O⟩
   refine gX ?_
   refine ldO (O.at (.tail _ (.tail _ (.tail _ (.head _))))) ?_;refine gH ?_
   first|refine⟨.inr (.inr (loadK rfl (O.at (.tail _ (.tail _ (.tail _ (.head _))))) rfl rfl)),?_⟩|refine⟨.inr (.inl (by kernel_rfl)),?_⟩
   refine gX ?_
   refine fg Tryz.func73 ?_;refine gX ?_
   refine clipK (s:=1) (enc:=n8) (l:=v10) (n:=v10.length) (m:=v10.length) rfl rfl rfl rfl rfl rfl rfl ?_;refine gX ?_
   (first|refine⟨.inr (.inr (loadK rfl (O.at (.head _)) rfl rfl)),?_⟩|refine⟨.inr (.inr (loadK rfl (O.at (.tail _ (.head _))) rfl rfl)),?_⟩|refine⟨.inr (.inr (loadK rfl (O.at (.tail _ (.tail _ (.head _)))) rfl rfl)),?_⟩|refine⟨.inr (.inr (loadK rfl (O.at (.tail _ (.tail _ (.tail _ (.head _))))) rfl rfl)),?_⟩|refine⟨.inr (.inr (loadK rfl (O.at (.tail _ (.tail _ (.tail _ (.tail _ (.head _)))))) rfl rfl)),?_⟩|refine⟨.inr (.inr (loadK rfl (O.at (.tail _ (.tail _ (.tail _ (.tail _ (.tail _ (.head _))))))) rfl rfl)),?_⟩|refine⟨.inr (.inr (loadK rfl (O.at (.tail _ (.tail _ (.tail _ (.tail _ (.tail _ (.tail _ (.head _)))))))) rfl rfl)),?_⟩|refine⟨.inl (Ext.refl _),?_⟩|refine⟨.inr (.inr rfl),?_⟩|refine⟨.inr (by kernel_rfl),?_⟩|refine⟨.inl (by kernel_rfl),?_⟩|refine id ?_);refine gH ?_
   refine ldO (O.at (.tail _ (.tail _ (.tail _ (.head _))))) ?_;refine gH ?_
   first|refine⟨.inr (.inr (loadK rfl (O.at (.tail _ (.tail _ (.tail _ (.head _))))) rfl rfl)),?_⟩|refine⟨.inr (.inl (by kernel_rfl)),?_⟩
   refine gX ?_
   refine fg Tryz.func73 ?_;refine gX ?_
   refine clipK (s:=1) (enc:=n8) (l:=v25) (n:=v25.length) (m:=v25.length) rfl rfl rfl rfl rfl rfl rfl ?_;refine gX ?_
   (first|refine⟨.inr (.inr (loadK rfl (O.at (.head _)) rfl rfl)),?_⟩|refine⟨.inr (.inr (loadK rfl (O.at (.tail _ (.head _))) rfl rfl)),?_⟩|refine⟨.inr (.inr (loadK rfl (O.at (.tail _ (.tail _ (.head _)))) rfl rfl)),?_⟩|refine⟨.inr (.inr (loadK rfl (O.at (.tail _ (.tail _ (.tail _ (.head _))))) rfl rfl)),?_⟩|refine⟨.inr (.inr (loadK rfl (O.at (.tail _ (.tail _ (.tail _ (.tail _ (.head _)))))) rfl rfl)),?_⟩|refine⟨.inr (.inr (loadK rfl (O.at (.tail _ (.tail _ (.tail _ (.tail _ (.tail _ (.head _))))))) rfl rfl)),?_⟩|refine⟨.inr (.inr (loadK rfl (O.at (.tail _ (.tail _ (.tail _ (.tail _ (.tail _ (.tail _ (.head _)))))))) rfl rfl)),?_⟩|refine⟨.inl (Ext.refl _),?_⟩|refine⟨.inr (.inr rfl),?_⟩|refine⟨.inr (by kernel_rfl),?_⟩|refine⟨.inl (by kernel_rfl),?_⟩|refine id ?_);refine gH ?_
   refine O.stC 2 (.head _) [(clipV a9 (v10.map n8)),(clipV a24 (v25.map n8))] fun h O=>?_;refine gH ?_
   (first|refine⟨.inr (.inr (loadK rfl (O.at (.head _)) rfl rfl)),?_⟩|refine⟨.inr (.inr (loadK rfl (O.at (.tail _ (.head _))) rfl rfl)),?_⟩|refine⟨.inr (.inr (loadK rfl (O.at (.tail _ (.tail _ (.head _)))) rfl rfl)),?_⟩|refine⟨.inr (.inr (loadK rfl (O.at (.tail _ (.tail _ (.tail _ (.head _))))) rfl rfl)),?_⟩|refine⟨.inr (.inr (loadK rfl (O.at (.tail _ (.tail _ (.tail _ (.tail _ (.head _)))))) rfl rfl)),?_⟩|refine⟨.inr (.inr (loadK rfl (O.at (.tail _ (.tail _ (.tail _ (.tail _ (.tail _ (.head _))))))) rfl rfl)),?_⟩|refine⟨.inr (.inr (loadK rfl (O.at (.tail _ (.tail _ (.tail _ (.tail _ (.tail _ (.tail _ (.head _)))))))) rfl rfl)),?_⟩|refine⟨.inl (Ext.refl _),?_⟩|refine⟨.inr (.inr rfl),?_⟩|refine⟨.inr (by kernel_rfl),?_⟩|refine⟨.inl (by kernel_rfl),?_⟩|refine id ?_);refine gH ?_
   refine gX ?_
   refine⟨_,resAggK rfl rfl (O.at (.head _)) rfl rfl (lbE rfl) rfl,?_⟩;conv=>whnf
   exact⟨(⟨v10,v25⟩:Rsp),hm,O.ext,fun h2 F=>VLe.agg (LLe.cons (O.clipL F (Nat.le_refl _) (.tail _ (.tail _ (.tail _ (.tail _ (.head _))))) ha26 (fun _=>rfl)) (LLe.cons (O.clipL F (Nat.le_refl _) (.tail _ (.tail _ (.tail _ (.tail _ (.tail _ (.head _)))))) ha27 (fun _=>rfl)) (LLe.nil _)))⟩
def sims_fits_wp (p0:Circ) (p1:Pat) (K:Nat->Prop):Prop :=
 joinW (α:=Bool) (fun k2=>((ltN 0 p0.mems.length)=true->k2 true)/\((ltN 0 p0.mems.length)=false->netlists_Of_wp p0 ([15]:(List Nat)) (fun r3=>k2 (ltN 0 r3.length)))) (fun v1=>(v1=true->K 7)/\(v1=false->joinW (α:=Bool) (fun k5=>netlists_Inputs_wp p0 (fun r6=>((neN p1.inp.length r6.length)=true->k5 true)/\((neN p1.inp.length r6.length)=false->netlists_States_wp p0 (fun r7=>k5 (neN p1.state.length r7.length))))) (fun v4=>(v4=true->K 8)/\(v4=false->joinW (α:=Bool) (fun k9=>cf_simsAbove_wp p1.inp (fun r10=>(r10=true->k9 true)/\(r10=false->cf_simsAbove_wp p1.state (fun r11=>k9 r11)))) (fun v8=>(v8=true->K 1)/\(v8=false->K 0))))))
theorem sims_fits_walk {p0:Circ}{p1:Pat}{K:Nat->Prop} (hm:sims_fits_wp p0 p1 K) {h0:Heap} (hB:HasB vars h0):∃ r,K r/\CallD Tryz.prog NG 35 ⟨[encCirc p0,encPat p1]⟩ h0 (i64 r) h0:=by
 unfold sims_fits_wp at hm
 refine fw Tryz.func35 hB (enc:=i64) (fun r=>PureV.flat rfl) fun O=>?_;conv=>whnf
 refine gX ?_
 refine fz ?_;refine gH ?_
 refine fz ?_;refine gH ?_
 apply Cs;conv=>whnf
 apply Cs;conv=>whnf
 refine jn hm 43 [2,3] (fun s=>s) (fun v1 h=>Own vars h0 [] h) (fun v1=>[(5,(.bool v1))]) (fun hm=>?_) ?_
 ·refine gX ?_
  refine br hm (fun hm=>?_) fun hm=>?_
  ·refine gX ?_
   exact jx true hm O
  ·refine gX ?_
   refine fz ?_;refine gH ?_
   refine ca (netlists_Of_walk hm O.has) fun r3 hm=>?_;refine gH ?_
   exact jx (ltN 0 r3.length) hm O
 ·clear hm;rintro v1 base h hm O
  refine gX ?_
  refine br hm (fun hm=>?_) fun hm=>?_
  ·refine gX ?_
   exact fe hm O
  ·refine jn hm 43 [3] (fun s=>s) (fun v4 h=>Own vars h0 [] h) (fun v4=>[(17,(.bool v4))]) (fun hm=>?_) ?_
   ·refine gX ?_
    first|refine⟨.inr (.inr (rfl)),?_⟩|refine⟨.inr (.inl (by kernel_rfl)),?_⟩
    refine gX ?_
    first|refine⟨.inr (.inr (rfl)),?_⟩|refine⟨.inr (.inl (by kernel_rfl)),?_⟩
    refine gX ?_
    refine ca (netlists_Inputs_walk hm O.has) fun r6 hm=>?_;refine gH ?_
    (first|refine⟨.inr (.inr (loadK rfl (O.at (.head _)) rfl rfl)),?_⟩|refine⟨.inr (.inr (loadK rfl (O.at (.tail _ (.head _))) rfl rfl)),?_⟩|refine⟨.inr (.inr (loadK rfl (O.at (.tail _ (.tail _ (.head _)))) rfl rfl)),?_⟩|refine⟨.inr (.inr (loadK rfl (O.at (.tail _ (.tail _ (.tail _ (.head _))))) rfl rfl)),?_⟩|refine⟨.inr (.inr (loadK rfl (O.at (.tail _ (.tail _ (.tail _ (.tail _ (.head _)))))) rfl rfl)),?_⟩|refine⟨.inr (.inr (loadK rfl (O.at (.tail _ (.tail _ (.tail _ (.tail _ (.tail _ (.head _))))))) rfl rfl)),?_⟩|refine⟨.inr (.inr (loadK rfl (O.at (.tail _ (.tail _ (.tail _ (.tail _ (.tail _ (.tail _ (.head _)))))))) rfl rfl)),?_⟩|refine⟨.inl (Ext.refl _),?_⟩|refine⟨.inr (.inr rfl),?_⟩|refine⟨.inr (by kernel_rfl),?_⟩|refine⟨.inl (by kernel_rfl),?_⟩|refine id ?_);refine gH ?_
    refine br hm (fun hm=>?_) fun hm=>?_
    ·refine gX ?_
     exact jx true hm O
    ·refine gX ?_
     first|refine⟨.inr (.inr (rfl)),?_⟩|refine⟨.inr (.inl (by kernel_rfl)),?_⟩
     refine gX ?_
     first|refine⟨.inr (.inr (rfl)),?_⟩|refine⟨.inr (.inl (by kernel_rfl)),?_⟩
     refine gX ?_
     refine ca (netlists_States_walk hm O.has) fun r7 hm=>?_;refine gH ?_
     (first|refine⟨.inr (.inr (loadK rfl (O.at (.head _)) rfl rfl)),?_⟩|refine⟨.inr (.inr (loadK rfl (O.at (.tail _ (.head _))) rfl rfl)),?_⟩|refine⟨.inr (.inr (loadK rfl (O.at (.tail _ (.tail _ (.head _)))) rfl rfl)),?_⟩|refine⟨.inr (.inr (loadK rfl (O.at (.tail _ (.tail _ (.tail _ (.head _))))) rfl rfl)),?_⟩|refine⟨.inr (.inr (loadK rfl (O.at (.tail _ (.tail _ (.tail _ (.tail _ (.head _)))))) rfl rfl)),?_⟩|refine⟨.inr (.inr (loadK rfl (O.at (.tail _ (.tail _ (.tail _ (.tail _ (.tail _ (.head _))))))) rfl rfl)),?_⟩|refine⟨.inr (.inr (loadK rfl (O.at (.tail _ (.tail _ (.tail _ (.tail _ (.tail _ (.tail _ (.head _)))))))) rfl rfl)),?_⟩|refine⟨.inl (Ext.refl _),?_⟩|refine⟨.inr (.inr rfl),?_⟩|refine⟨.inr (by kernel_rfl),?_⟩|refine⟨.inl (by kernel_rfl),?_⟩|refine id ?_);refine gH ?_
     exact jx (neN p1.state.length r7.length) hm O
   ·clear hm;rintro v4 base h hm O
    refine gX ?_
    refine br hm (fun hm=>?_) fun hm=>?_
    ·refine gX ?_
     exact fe hm O
    ·refine jn hm 43 [] (fun s=>s) (fun v8 h=>Own vars h0 [] h) (fun v8=>[(34,(.bool v8))]) (fun hm=>?_) ?_
     ·refine gX ?_
      refine ca (cf_simsAbove_walk hm O.has) fun r10 hm=>?_;refine gH ?_
      refine br hm (fun hm=>?_) fun hm=>?_
      ·refine gX ?_
       exact jx true hm O
      ·refine gX ?_
       refine ca (cf_simsAbove_walk hm O.has) fun r11 hm=>?_;refine gH ?_
       exact jx r11 hm O
     ·clear hm;rintro v8 base h hm O
      refine gX ?_
      refine br hm (fun hm=>?_) fun hm=>?_
      ·refine gX ?_
       exact fe hm O
      ·refine gX ?_
       exact fe hm O
def sims_Run_wp (p0:Circ) (p1:Pat) (K:(Rsp×(List Nat)×Nat)->Prop):Prop :=
 netlists_Order_wp p0 (fun r5=>joinW (α:=Nat) (fun k7=>((eqN r5.2 0)=true->sims_fits_wp p0 p1 (fun r8=>k7 r8))/\((eqN r5.2 0)=false->k7 r5.2)) (fun v6=>((neN v6 0)=true->K ((⟨[],[]⟩:Rsp),[],v6))/\((neN v6 0)=false->1*p0.nodes.length<=2 ^ 48/\p0.nodes.length<2 ^ 63/\joinW (α:=(List Nat)) (fun k21=>netlists_Inputs_wp p0 (fun r22=>loopW (S:=((List Nat)×Nat)) (fun (v23,v24) nx25=>((ltN v24 r22.length)=true->∃ x26,r22[v24]?=some x26/\∃ x27,p1.inp[v24]?=some x27/\x26<p0.nodes.length/\∃ x28,v23[x26]?=some x28/\v24+1<2 ^ 63/\nx25 ((v23.set x26 x27),(v24+1)))/\((ltN v24 r22.length)=false->k21 v23)) ((List.replicate p0.nodes.length (0:Nat)),0))) (fun v20=>netlists_States_wp p0 (fun r29=>loopW (S:=((List Nat)×Nat)) (fun (v30,v31) nx32=>((ltN v31 r29.length)=true->∃ x33,r29[v31]?=some x33/\∃ x34,p1.state[v31]?=some x34/\x33<p0.nodes.length/\∃ x35,v30[x33]?=some x35/\v31+1<2 ^ 63/\nx32 ((v30.set x33 x34),(v31+1)))/\((ltN v31 r29.length)=false->joinW (α:=(List Nat)) (fun k39=>loopW (S:=((List Nat)×(List Nat)×Nat×Nat)) (fun (v40,v41,v42,v43) nx44=>((ltN v43 r5.1.length)=true->joinW (α:=((List Nat)×(List Nat)×Nat)) (fun k48=>∃ x49,r5.1[v43]?=some x49/\∃ x50,p0.nodes[x49]?=some x50/\netlists_Comb_wp x50.kind (fun r54=>((!r54)=true->k48 (v40,v41,v42))/\((!r54)=false->0<=16/\joinW (α:=((List Nat)×Nat)) (fun k57=>loopW (S:=((List Nat)×Nat×Nat)) (fun (v58,v59,v60) nx61=>((ltN v60 x50.ins.length)=true->∃ x62,x50.ins[v60]?=some x62/\x62<p0.nodes.length/\∃ x63,v40[x62]?=some x63/\(v59+1)<=16/\(v59+1)<=v58.length/\v60+1<2 ^ 63/\nx61 ((v58.take v59++(([x63]:(List Nat))++v58.drop (v59+1))),(v59+1),(v60+1)))/\((ltN v60 x50.ins.length)=false->k57 (v58,v59))) (v41,0,0)) (fun (v55,v56)=>v56<=v55.length/\logic_Eval_wp x50.kind (v55.take v56) (fun r64=>x49<p0.nodes.length/\∃ x66,v40[x49]?=some x66/\k48 ((v40.set x49 r64),v55,v56)))))) (fun (v45,v46,v47)=>v43+1<2 ^ 63/\nx44 (v45,v46,v47,(v43+1))))/\((ltN v43 r5.1.length)=false->k39 v40)) (v30,(List.replicate 16 (0:Nat)),0,0)) (fun v38=>p0.nodes.length=v38.length/\run_observe_wp (⟨p0,v38⟩:SRun) (fun r68=>K (r68,v38,0))))) (v20,0))))))
theorem sims_Run_walk {p0:Circ}{p1:Pat}{K:(Rsp×(List Nat)×Nat)->Prop} (hm:sims_Run_wp p0 p1 K) {h0:Heap} (hB:HasB vars h0):∃ r,K r/\CallD Tryz.prog NG 16 ⟨[encCirc p0,encPat p1]⟩ h0 ((fun (r:(Rsp×(List Nat)×Nat))=>Value.tuple ⟨[encRsp (r.1),(encL 1 n8) (r.2.1),i64 (r.2.2)]⟩) r) h0:=by
 unfold sims_Run_wp at hm
 refine fw Tryz.func16 hB (enc:=(fun (r:(Rsp×(List Nat)×Nat))=>Value.tuple ⟨[encRsp (r.1),(encL 1 n8) (r.2.1),i64 (r.2.2)]⟩)) (fun r=>PureV.tup (AllPure.cons (pure_rsp _) (AllPure.cons (pureL (fun _=>AllPure.cons (PureV.flat rfl) AllPure.nil)) (AllPure.cons (PureV.flat rfl) (AllPure.nil))))) fun O=>?_;conv=>whnf
 refine gX ?_
 refine fz ?_;refine gH ?_
 refine fz ?_;refine gH ?_
 have O:=O.addNil (.cells (flatC ((([]:List Nat)).map n8)) false)
 have O:=O.addNil (.cells (flatC ((([]:List Nat)).map n8)) false)
 (first|refine O.new (anew_alloc (l:=[(.slice none 0 0),(.slice none 0 0)]) rfl rfl rfl) fun g1 h O=>?_|refine O.newX (anew_alloc (l:=[(.slice none 0 0),(.slice none 0 0)]) rfl rfl rfl) fun g1 h O=>?_);refine gH ?_
 refine gX ?_
 refine ca (netlists_Order_walk hm O.has) fun r5 hm=>?_;refine gH ?_
 refine jn hm 87 [2,3,4,7] (fun s=>s) (fun v6 h=>Own vars h0 [((some g1),.cells [(growV 1 none (([]:List Nat).map n8)),(growV 1 none (([]:List Nat).map n8))] false),(none,.cells (flatC (([]:List Nat).map n8)) false),(none,.cells (flatC (([]:List Nat).map n8)) false)] h) (fun v6=>[(8,(i64 v6))]) (fun hm=>?_) ?_
 ·refine gX ?_
  refine br hm (fun hm=>?_) fun hm=>?_
  ·refine gX ?_
   refine ca (sims_fits_walk hm O.has) fun r8 hm=>?_;refine gH ?_
   exact jx r8 hm (O.sel [0,2,1] (by decide))
  ·refine gX ?_
   exact jx r5.2 hm (O.sel [0,2,1] (by decide))
 ·clear hm;rintro v6 base h hm O
  refine gX ?_
  refine br hm (fun hm=>?_) fun hm=>?_
  ·refine gX ?_
   refine O.stC 2 (.head _) [(.slice none 0 0),(.slice none 0 0)] fun h O=>?_;refine gX ?_
   refine⟨_,resAggK rfl rfl (O.at (.head _)) rfl rfl (lbE rfl) rfl,?_⟩;conv=>whnf
   exact⟨((⟨[],[]⟩:Rsp),[],v6),hm,O.ext,fun h2 F=>VLe.tup (LLe.cons (VLe.agg (LLe.cons (VLe.nil _ _) (LLe.cons (VLe.nil _ _) (LLe.nil _)))) (LLe.cons (VLe.nil _ _) (LLe.cons (VLe.refl _ _) (LLe.nil _))))⟩
  ·refine gX ?_
   first|refine⟨.inr (.inr (rfl)),?_⟩|refine⟨.inr (.inl (by kernel_rfl)),?_⟩
   refine gX ?_
   first|refine⟨.inr (.inr (rfl)),?_⟩|refine⟨.inr (.inl (by kernel_rfl)),?_⟩
   refine gX ?_
   refine O.makeLX (enc:=n8) (z:=0) (b:=1) (s:=1) (n:=p0.nodes.length) rfl rfl rfl rfl rfl (by decide) (by kernel_rfl) rfl rfl hm.1 hm.2.1 fun g9 h O=>?_;refine gH ?_
   replace hm:=hm.2.2
   have O:=O.addNil (.cells (flatC ((([]:List Node)).map encNode)) false)
   have O:=O.addNil (.cells (flatC ((([]:List ByteArray)).map Value.string)) false)
   have O:=O.addNil (.cells (flatC ((([]:List Memo)).map encMem)) false)
   have O:=O.addNil (.cells (flatC ((([]:List Nat)).map i64)) false)
   have O:=O.addNil (.cells (flatC ((([]:List Nat)).map n8)) false)
   (first|refine O.new (anew_alloc (l:=[(.slice none 0 0),(.slice none 0 0),(.slice none 0 0),(.slice none 0 0),(.slice none 0 0)]) rfl rfl rfl) fun g11 h O=>?_|refine O.newX (anew_alloc (l:=[(.slice none 0 0),(.slice none 0 0),(.slice none 0 0),(.slice none 0 0),(.slice none 0 0)]) rfl rfl rfl) fun g11 h O=>?_);refine gH ?_
   refine O.stC 5 (.head _) [((encL 4 encNode) p0.nodes),((encL 1 Value.string) p0.names),((encL 3 encMem) p0.mems),((encL 1 i64) p0.outs),(.slice (some ⟨g9,0,none⟩) p0.nodes.length p0.nodes.length)] fun h O=>?_;refine gH ?_
   (first|refine⟨.inr (.inr (loadK rfl (O.at (.head _)) rfl rfl)),?_⟩|refine⟨.inr (.inr (loadK rfl (O.at (.tail _ (.head _))) rfl rfl)),?_⟩|refine⟨.inr (.inr (loadK rfl (O.at (.tail _ (.tail _ (.head _)))) rfl rfl)),?_⟩|refine⟨.inr (.inr (loadK rfl (O.at (.tail _ (.tail _ (.tail _ (.head _))))) rfl rfl)),?_⟩|refine⟨.inr (.inr (loadK rfl (O.at (.tail _ (.tail _ (.tail _ (.tail _ (.head _)))))) rfl rfl)),?_⟩|refine⟨.inr (.inr (loadK rfl (O.at (.tail _ (.tail _ (.tail _ (.tail _ (.tail _ (.head _))))))) rfl rfl)),?_⟩|refine⟨.inr (.inr (loadK rfl (O.at (.tail _ (.tail _ (.tail _ (.tail _ (.tail _ (.tail _ (.head _)))))))) rfl rfl)),?_⟩|refine⟨.inl (Ext.refl _),?_⟩|refine⟨.inr (.inr rfl),?_⟩|refine⟨.inr (by kernel_rfl),?_⟩|refine⟨.inl (by kernel_rfl),?_⟩|refine id ?_);refine gH ?_
   refine gX ?_
   refine ldA (O.at (.head _)) ?_;refine gH ?_
   refine fg Tryz.func36 ?_;refine gX ?_
   (first|refine O.new (boxK rfl) fun g18 h O=>?_|refine O.newX (boxK rfl) fun g18 h O=>?_);refine gH ?_
   refine fz ?_;refine gH ?_
   refine jn hm 46 [2,3] (fun s=>s) (fun v20 h=>Own vars h0 [((some g18),.cells [((encL 4 encNode) p0.nodes),((encL 1 Value.string) p0.names),((encL 3 encMem) p0.mems),((encL 1 i64) p0.outs),(.slice (some ⟨g9,0,none⟩) p0.nodes.length p0.nodes.length)] false),((some g9),.cells (flatC (v20.map n8)) false),((some g1),.cells [(growV 1 none (([]:List Nat).map n8)),(growV 1 none (([]:List Nat).map n8))] false),(none,.cells (flatC (([]:List Nat).map n8)) false),(none,.cells (flatC (([]:List Nat).map n8)) false),((some g11),.cells [((encL 4 encNode) p0.nodes),((encL 1 Value.string) p0.names),((encL 3 encMem) p0.mems),((encL 1 i64) p0.outs),(.slice (some ⟨g9,0,none⟩) p0.nodes.length p0.nodes.length)] false)] h) (fun v20=>[]) (fun hm=>?_) ?_
   ·refine gX ?_
    refine ldA (O.at (.head _)) ?_;refine gH ?_
    refine ca (netlists_Inputs_walk hm O.has) fun r22 hm=>?_;refine gX ?_
    refine lw 46 [2,3,10,11] (σ:=((List Nat)×Nat)) (fun s=>s) (fun (v23,v24) h=>Own vars h0 [((some g18),.cells [((encL 4 encNode) p0.nodes),((encL 1 Value.string) p0.names),((encL 3 encMem) p0.mems),((encL 1 i64) p0.outs),(.slice (some ⟨g9,0,none⟩) p0.nodes.length p0.nodes.length)] false),((some g9),.cells (flatC (v23.map n8)) false),((some g1),.cells [(growV 1 none (([]:List Nat).map n8)),(growV 1 none (([]:List Nat).map n8))] false),(none,.cells (flatC (([]:List Nat).map n8)) false),(none,.cells (flatC (([]:List Nat).map n8)) false),((some g11),.cells [((encL 4 encNode) p0.nodes),((encL 1 Value.string) p0.names),((encL 3 encMem) p0.mems),((encL 1 i64) p0.outs),(.slice (some ⟨g9,0,none⟩) p0.nodes.length p0.nodes.length)] false)] h) (fun (v23,v24)=>[(12,(i64 v24))]) ((List.replicate p0.nodes.length (0:Nat)),0) hm (O.sel [0,7,8,9,10,1] (by decide)) ?_
    clear hm;rintro⟨v23,v24⟩ nx25 base h hm O
    refine gX ?_
    refine br hm (fun hm=>?_) fun hm=>?_
    ·refine gX ?_
     refine atF hm fun x26 hx26 hm=>?_;refine gX ?_
     first|refine⟨.inr (.inr (loadK rfl (O.at (.head _)) rfl rfl)),?_⟩|refine⟨.inr (.inl (by kernel_rfl)),?_⟩
     refine gX ?_
     first|refine⟨.inr (.inr (rfl)),?_⟩|refine⟨.inr (.inl (by kernel_rfl)),?_⟩
     refine gX ?_
     refine atF hm fun x27 hx27 hm=>?_;refine gH ?_
     refine ix 1 hm fun x28 hx28 hm=>?_;refine gH ?_
     refine O.stE 1 (.tail _ (.head _)) hx28 x27 fun h O=>?_;refine gH ?_
     (first|refine⟨.inr (.inr (loadK rfl (O.at (.head _)) rfl rfl)),?_⟩|refine⟨.inr (.inr (loadK rfl (O.at (.tail _ (.head _))) rfl rfl)),?_⟩|refine⟨.inr (.inr (loadK rfl (O.at (.tail _ (.tail _ (.head _)))) rfl rfl)),?_⟩|refine⟨.inr (.inr (loadK rfl (O.at (.tail _ (.tail _ (.tail _ (.head _))))) rfl rfl)),?_⟩|refine⟨.inr (.inr (loadK rfl (O.at (.tail _ (.tail _ (.tail _ (.tail _ (.head _)))))) rfl rfl)),?_⟩|refine⟨.inr (.inr (loadK rfl (O.at (.tail _ (.tail _ (.tail _ (.tail _ (.tail _ (.head _))))))) rfl rfl)),?_⟩|refine⟨.inr (.inr (loadK rfl (O.at (.tail _ (.tail _ (.tail _ (.tail _ (.tail _ (.tail _ (.head _)))))))) rfl rfl)),?_⟩|refine⟨.inl (Ext.refl _),?_⟩|refine⟨.inr (.inr rfl),?_⟩|refine⟨.inr (by kernel_rfl),?_⟩|refine⟨.inl (by kernel_rfl),?_⟩|refine id ?_);refine gH ?_
     refine gX ?_
     refine aAdd hm fun hm=>?_;refine gH ?_
     exact jx ((v23.set x26 x27),(v24+1)) hm O
    ·refine gX ?_
     exact jx v23 hm O
   ·clear hm;rintro v20 base h hm O
    refine gX ?_
    refine ldA (O.at (.head _)) ?_;refine gH ?_
    refine ca (netlists_States_walk hm O.has) fun r29 hm=>?_;refine gX ?_
    refine lw 46 [2,3,29,30] (σ:=((List Nat)×Nat)) (fun s=>s) (fun (v30,v31) h=>Own vars h0 [((some g18),.cells [((encL 4 encNode) p0.nodes),((encL 1 Value.string) p0.names),((encL 3 encMem) p0.mems),((encL 1 i64) p0.outs),(.slice (some ⟨g9,0,none⟩) p0.nodes.length p0.nodes.length)] false),((some g9),.cells (flatC (v30.map n8)) false),((some g1),.cells [(growV 1 none (([]:List Nat).map n8)),(growV 1 none (([]:List Nat).map n8))] false),(none,.cells (flatC (([]:List Nat).map n8)) false),(none,.cells (flatC (([]:List Nat).map n8)) false),((some g11),.cells [((encL 4 encNode) p0.nodes),((encL 1 Value.string) p0.names),((encL 3 encMem) p0.mems),((encL 1 i64) p0.outs),(.slice (some ⟨g9,0,none⟩) p0.nodes.length p0.nodes.length)] false)] h) (fun (v30,v31)=>[(31,(i64 v31))]) (v20,0) hm O ?_
    clear hm;rintro⟨v30,v31⟩ nx32 base h hm O
    refine gX ?_
    refine br hm (fun hm=>?_) fun hm=>?_
    ·refine gX ?_
     refine atF hm fun x33 hx33 hm=>?_;refine gX ?_
     first|refine⟨.inr (.inr (loadK rfl (O.at (.head _)) rfl rfl)),?_⟩|refine⟨.inr (.inl (by kernel_rfl)),?_⟩
     refine gX ?_
     first|refine⟨.inr (.inr (rfl)),?_⟩|refine⟨.inr (.inl (by kernel_rfl)),?_⟩
     refine gX ?_
     refine atF hm fun x34 hx34 hm=>?_;refine gH ?_
     refine ix 1 hm fun x35 hx35 hm=>?_;refine gH ?_
     refine O.stE 1 (.tail _ (.head _)) hx35 x34 fun h O=>?_;refine gH ?_
     (first|refine⟨.inr (.inr (loadK rfl (O.at (.head _)) rfl rfl)),?_⟩|refine⟨.inr (.inr (loadK rfl (O.at (.tail _ (.head _))) rfl rfl)),?_⟩|refine⟨.inr (.inr (loadK rfl (O.at (.tail _ (.tail _ (.head _)))) rfl rfl)),?_⟩|refine⟨.inr (.inr (loadK rfl (O.at (.tail _ (.tail _ (.tail _ (.head _))))) rfl rfl)),?_⟩|refine⟨.inr (.inr (loadK rfl (O.at (.tail _ (.tail _ (.tail _ (.tail _ (.head _)))))) rfl rfl)),?_⟩|refine⟨.inr (.inr (loadK rfl (O.at (.tail _ (.tail _ (.tail _ (.tail _ (.tail _ (.head _))))))) rfl rfl)),?_⟩|refine⟨.inr (.inr (loadK rfl (O.at (.tail _ (.tail _ (.tail _ (.tail _ (.tail _ (.tail _ (.head _)))))))) rfl rfl)),?_⟩|refine⟨.inl (Ext.refl _),?_⟩|refine⟨.inr (.inr rfl),?_⟩|refine⟨.inr (by kernel_rfl),?_⟩|refine⟨.inl (by kernel_rfl),?_⟩|refine id ?_);refine gH ?_
     refine gX ?_
     refine aAdd hm fun hm=>?_;refine gH ?_
     exact jx ((v30.set x33 x34),(v31+1)) hm O
    ·refine gX ?_
     refine O.makeW (enc:=n8) (z:=0) (b:=1) (s:=1) (m:=0) (n:=16) rfl rfl rfl rfl rfl (by decide) (by kernel_rfl) rfl rfl (by decide) (by decide) (by decide) fun g36 h O=>?_;refine gH ?_
     refine jn hm 87 [4,9] (fun s=>s) (fun v38 h=>Own vars h0 [((some g1),.cells [(growV 1 none (([]:List Nat).map n8)),(growV 1 none (([]:List Nat).map n8))] false),(none,.cells (flatC (([]:List Nat).map n8)) false),(none,.cells (flatC (([]:List Nat).map n8)) false),((some g11),.cells [((encL 4 encNode) p0.nodes),((encL 1 Value.string) p0.names),((encL 3 encMem) p0.mems),((encL 1 i64) p0.outs),(.slice (some ⟨g9,0,none⟩) p0.nodes.length p0.nodes.length)] false),((some g9),.cells (flatC (v38.map n8)) false)] h) (fun v38=>[]) (fun hm=>?_) ?_
     ·refine gX ?_
      refine lw 87 [4,9,40,41] (σ:=((List Nat)×(List Nat)×Nat×Nat)) (fun s=>s) (fun (v40,v41,v42,v43) h=>Own vars h0 [((some g1),.cells [(growV 1 none (([]:List Nat).map n8)),(growV 1 none (([]:List Nat).map n8))] false),(none,.cells (flatC (([]:List Nat).map n8)) false),(none,.cells (flatC (([]:List Nat).map n8)) false),((some g11),.cells [((encL 4 encNode) p0.nodes),((encL 1 Value.string) p0.names),((encL 3 encMem) p0.mems),((encL 1 i64) p0.outs),(.slice (some ⟨g9,0,none⟩) p0.nodes.length p0.nodes.length)] false),((some g9),.cells (flatC (v40.map n8)) false),((some g36),.cells (flatC (v41.map n8)) false)] h) (fun (v40,v41,v42,v43)=>[(10,(.slice (some ⟨g36,0,none⟩) v42 16)),(42,(i64 v43))]) (v30,(List.replicate 16 (0:Nat)),0,0) hm (O.sel [3,4,5,6,2,0] (by decide)) ?_
      clear hm;rintro⟨v40,v41,v42,v43⟩ nx44 base h hm O
      refine gX ?_
      refine br hm (fun hm=>?_) fun hm=>?_
      ·apply Cs;conv=>whnf
       refine jn hm 87 [4,9,40,41,42] (fun s=>s) (fun (v45,v46,v47) h=>Own vars h0 [((some g1),.cells [(growV 1 none (([]:List Nat).map n8)),(growV 1 none (([]:List Nat).map n8))] false),(none,.cells (flatC (([]:List Nat).map n8)) false),(none,.cells (flatC (([]:List Nat).map n8)) false),((some g11),.cells [((encL 4 encNode) p0.nodes),((encL 1 Value.string) p0.names),((encL 3 encMem) p0.mems),((encL 1 i64) p0.outs),(.slice (some ⟨g9,0,none⟩) p0.nodes.length p0.nodes.length)] false),((some g9),.cells (flatC (v45.map n8)) false),((some g36),.cells (flatC (v46.map n8)) false)] h) (fun (v45,v46,v47)=>[(10,(.slice (some ⟨g36,0,none⟩) v47 16))]) (fun hm=>?_) ?_
       ·refine gX ?_
        refine atF hm fun x49 hx49 hm=>?_;refine gX ?_
        refine ldO (O.at (.tail _ (.tail _ (.tail _ (.head _))))) ?_;refine gH ?_
        refine atF hm fun x50 hx50 hm=>?_;refine gH ?_
        have O:=O.addNil (.cells (flatC ((([]:List Nat)).map i64)) false)
        (first|refine O.new (anew_alloc (l:=[(n8 0),(.slice none 0 0),(i64 0),(i64 0)]) rfl rfl rfl) fun g51 h O=>?_|refine O.newX (anew_alloc (l:=[(n8 0),(.slice none 0 0),(i64 0),(i64 0)]) rfl rfl rfl) fun g51 h O=>?_);refine gH ?_
        refine O.stC 4 (.head _) [(n8 x50.kind),((encL 1 i64) x50.ins),(i64 x50.mem),(i64 x50.bit)] fun h O=>?_;refine gX ?_
        refine ca (netlists_Comb_walk hm O.has) fun r54 hm=>?_;refine gX ?_
        refine br hm (fun hm=>?_) fun hm=>?_
        ·refine gX ?_
         exact jx (v40,v41,v42) hm (O.sel [2,3,4,5,6,7] (by decide))
        ·refine gX ?_
         refine winTo (s:=1) (m:=0) rfl rfl rfl rfl hm.1 ?_;refine gH ?_
         replace hm:=hm.2
         refine jn hm 87 [4,9,12,13,40,41,42] (fun s=>s) (fun (v55,v56) h=>Own vars h0 [((some g1),.cells [(growV 1 none (([]:List Nat).map n8)),(growV 1 none (([]:List Nat).map n8))] false),(none,.cells (flatC (([]:List Nat).map n8)) false),(none,.cells (flatC (([]:List Nat).map n8)) false),((some g11),.cells [((encL 4 encNode) p0.nodes),((encL 1 Value.string) p0.names),((encL 3 encMem) p0.mems),((encL 1 i64) p0.outs),(.slice (some ⟨g9,0,none⟩) p0.nodes.length p0.nodes.length)] false),((some g9),.cells (flatC (v40.map n8)) false),((some g36),.cells (flatC (v55.map n8)) false),((some g51),.cells [(n8 x50.kind),((encL 1 i64) x50.ins),(i64 x50.mem),(i64 x50.bit)] false)] h) (fun (v55,v56)=>[(10,(.slice (some ⟨g36,0,none⟩) v56 16))]) (fun hm=>?_) ?_
         ·refine gX ?_
          refine lw 87 [4,9,12,13,40,41,42,59,60] (σ:=((List Nat)×Nat×Nat)) (fun s=>s) (fun (v58,v59,v60) h=>Own vars h0 [((some g1),.cells [(growV 1 none (([]:List Nat).map n8)),(growV 1 none (([]:List Nat).map n8))] false),(none,.cells (flatC (([]:List Nat).map n8)) false),(none,.cells (flatC (([]:List Nat).map n8)) false),((some g11),.cells [((encL 4 encNode) p0.nodes),((encL 1 Value.string) p0.names),((encL 3 encMem) p0.mems),((encL 1 i64) p0.outs),(.slice (some ⟨g9,0,none⟩) p0.nodes.length p0.nodes.length)] false),((some g9),.cells (flatC (v40.map n8)) false),((some g36),.cells (flatC (v58.map n8)) false),((some g51),.cells [(n8 x50.kind),((encL 1 i64) x50.ins),(i64 x50.mem),(i64 x50.bit)] false)] h) (fun (v58,v59,v60)=>[(10,(.slice (some ⟨g36,0,none⟩) v59 16)),(61,(i64 v60))]) (v41,0,0) hm (O.sel [2,3,4,5,6,7,0] (by decide)) ?_
          clear hm;rintro⟨v58,v59,v60⟩ nx61 base h hm O
          refine gX ?_
          refine br hm (fun hm=>?_) fun hm=>?_
          ·refine gX ?_
           refine atF hm fun x62 hx62 hm=>?_;refine gX ?_
           refine ldO (O.at (.tail _ (.tail _ (.tail _ (.head _))))) ?_;refine gH ?_
           refine ix 1 hm fun x63 hx63 hm=>?_;refine gH ?_
           refine ldE (s:=1) (i:=0) (O.at (.tail _ (.tail _ (.tail _ (.tail _ (.head _)))))) hx63 ?_;refine gH ?_
           refine fz ?_;refine gH ?_
           refine O.appendR (enc:=n8) (l:=v58) (new:=([x63]:(List Nat))) (s:=1) (b:=1) (.tail _ (.tail _ (.tail _ (.tail _ (.tail _ (.head _)))))) rfl rfl rfl rfl rfl rfl rfl (YOk.fl rfl) (fun _=>rfl) (fun _=>rfl) (Nat.zero_lt_succ _) hm.1 hm.2.1 fun h O=>?_;refine gX ?_
           replace hm:=hm.2.2
           refine aAdd hm fun hm=>?_;refine gH ?_
           exact jx ((v58.take v59++(([x63]:(List Nat))++v58.drop (v59+1))),(v59+1),(v60+1)) hm O
          ·refine gX ?_
           exact jx (v58,v59) hm O
         ·clear hm;rintro⟨v55,v56⟩ base h hm O
          refine gX ?_
          refine ldO (O.at (.tail _ (.tail _ (.tail _ (.head _))))) ?_;refine gH ?_
          first|refine⟨.inr (.inr (loadK rfl (O.at (.tail _ (.tail _ (.tail _ (.head _))))) rfl rfl)),?_⟩|refine⟨.inr (.inl (by kernel_rfl)),?_⟩
          refine gX ?_
          refine ldO (O.at (.tail _ (.tail _ (.tail _ (.tail _ (.tail _ (.tail _ (.head _)))))))) ?_;refine gH ?_
          obtain⟨hn65,hm⟩:=hm
          refine CallD.useB (fun _ hb=>logic_Eval_walk hm hb) (fun _=>flatB_ok rfl) fzVars O.has (fun h2 F=>(LLe.cons (VLe.refl _ _) (LLe.cons (O.flatW F (Nat.zero_le _) (.tail _ (.tail _ (.tail _ (.tail _ (.tail _ (.head _)))))) (fun _=>rfl) hn65) (LLe.nil _)))) (by kernel_rfl) (fun r64 hm'=>?_);replace hm:=hm';refine gH ?_
          (first|refine⟨.inr (.inr (loadK rfl (O.at (.head _)) rfl rfl)),?_⟩|refine⟨.inr (.inr (loadK rfl (O.at (.tail _ (.head _))) rfl rfl)),?_⟩|refine⟨.inr (.inr (loadK rfl (O.at (.tail _ (.tail _ (.head _)))) rfl rfl)),?_⟩|refine⟨.inr (.inr (loadK rfl (O.at (.tail _ (.tail _ (.tail _ (.head _))))) rfl rfl)),?_⟩|refine⟨.inr (.inr (loadK rfl (O.at (.tail _ (.tail _ (.tail _ (.tail _ (.head _)))))) rfl rfl)),?_⟩|refine⟨.inr (.inr (loadK rfl (O.at (.tail _ (.tail _ (.tail _ (.tail _ (.tail _ (.head _))))))) rfl rfl)),?_⟩|refine⟨.inr (.inr (loadK rfl (O.at (.tail _ (.tail _ (.tail _ (.tail _ (.tail _ (.tail _ (.head _)))))))) rfl rfl)),?_⟩|refine⟨.inl (Ext.refl _),?_⟩|refine⟨.inr (.inr rfl),?_⟩|refine⟨.inr (by kernel_rfl),?_⟩|refine⟨.inl (by kernel_rfl),?_⟩|refine id ?_);refine gH ?_
          refine ix 1 hm fun x66 hx66 hm=>?_;refine gH ?_
          refine O.stE 1 (.tail _ (.tail _ (.tail _ (.tail _ (.head _))))) hx66 r64 fun h O=>?_;refine gH ?_
          (first|refine⟨.inr (.inr (loadK rfl (O.at (.head _)) rfl rfl)),?_⟩|refine⟨.inr (.inr (loadK rfl (O.at (.tail _ (.head _))) rfl rfl)),?_⟩|refine⟨.inr (.inr (loadK rfl (O.at (.tail _ (.tail _ (.head _)))) rfl rfl)),?_⟩|refine⟨.inr (.inr (loadK rfl (O.at (.tail _ (.tail _ (.tail _ (.head _))))) rfl rfl)),?_⟩|refine⟨.inr (.inr (loadK rfl (O.at (.tail _ (.tail _ (.tail _ (.tail _ (.head _)))))) rfl rfl)),?_⟩|refine⟨.inr (.inr (loadK rfl (O.at (.tail _ (.tail _ (.tail _ (.tail _ (.tail _ (.head _))))))) rfl rfl)),?_⟩|refine⟨.inr (.inr (loadK rfl (O.at (.tail _ (.tail _ (.tail _ (.tail _ (.tail _ (.tail _ (.head _)))))))) rfl rfl)),?_⟩|refine⟨.inl (Ext.refl _),?_⟩|refine⟨.inr (.inr rfl),?_⟩|refine⟨.inr (by kernel_rfl),?_⟩|refine⟨.inl (by kernel_rfl),?_⟩|refine id ?_);refine gH ?_
          exact jx ((v40.set x49 r64),v55,v56) hm (O.sel [0,1,2,3,4,5] (by decide))
       ·clear hm;rintro⟨v45,v46,v47⟩ base h hm O
        refine gX ?_
        refine aAdd hm fun hm=>?_;refine gH ?_
        exact jx (v45,v46,v47,(v43+1)) hm O
      ·refine gX ?_
       exact jx v40 hm (O.sel [0,1,2,3,4] (by decide))
     ·clear hm;rintro v38 base h hm O
      conv=>whnf
      apply Cs;conv=>whnf
      obtain⟨hn67,hm⟩:=hm
      refine CodeS.freezeFP (cs2':=[((encL 4 encNode) p0.nodes),((encL 1 Value.string) p0.names),((encL 3 encMem) p0.mems),((encL 1 i64) p0.outs),((encL 1 n8) v38)]) (v:=(.agg ⟨[((encL 4 encNode) p0.nodes),((encL 1 Value.string) p0.names),((encL 3 encMem) p0.mems),((encL 1 i64) p0.outs),((encL 1 n8) v38)]⟩)) O (.tail _ (.tail _ (.tail _ (.tail _ (.head _))))) (.tail _ (.tail _ (.tail _ (.head _)))) (j:=4) (t2:=9) rfl rfl rfl rfl (fun h2 q=>(LLe.cons (VLe.refl _ _) (LLe.cons (VLe.refl _ _) (LLe.cons (VLe.refl _ _) (LLe.cons (VLe.refl _ _) (LLe.cons (VLe.flM q hn67 (fun _=>rfl)) (LLe.nil _))))))) fun h O=>?_;conv=>whnf
      refine CodeS.drawF ?_;refine gH ?_
      refine ca (run_observe_walk hm O.has) fun r68 hm=>?_;refine gH ?_
      refine O.stC 2 (.head _) [((encL 1 n8) r68.out),((encL 1 n8) r68.next)] fun h O=>?_;refine gX ?_
      refine⟨_,resAggK rfl rfl (O.at (.head _)) rfl rfl (lbE rfl) rfl,?_⟩;conv=>whnf
      exact⟨(r68,v38,0),hm,O.ext,fun h2 F=>VLe.tup (LLe.cons (VLe.refl _ _) (LLe.cons (VLe.refl _ _) (LLe.cons (VLe.refl _ _) (LLe.nil _))))⟩
def sims_Check_wp (p0:Circ) (p1:Pat) (K:Nat->Prop):Prop :=
 netlists_Check_wp p0 (fun r1=>((neN r1 0)=true->K r1)/\((neN r1 0)=false->sims_fits_wp p0 p1 (fun r2=>K r2)))
theorem sims_Check_walk {p0:Circ}{p1:Pat}{K:Nat->Prop} (hm:sims_Check_wp p0 p1 K) {h0:Heap} (hB:HasB vars h0):∃ r,K r/\CallD Tryz.prog NG 54 ⟨[encCirc p0,encPat p1]⟩ h0 (i64 r) h0:=by
 unfold sims_Check_wp at hm
 refine fw Tryz.func54 hB (enc:=i64) (fun r=>PureV.flat rfl) fun O=>?_;conv=>whnf
 refine gX ?_
 refine fz ?_;refine gH ?_
 refine fz ?_;refine gX ?_
 refine ca (netlists_Check_walk hm O.has) fun r1 hm=>?_;refine gX ?_
 refine br hm (fun hm=>?_) fun hm=>?_
 ·refine gX ?_
  exact fe hm O
 ·refine gX ?_
  refine ca (sims_fits_walk hm O.has) fun r2 hm=>?_;refine gX ?_
  exact fe hm O
theorem inputs_vc {c:Circ}{K:List Nat->Prop} (hc:c.nodes.length<2 ^ 40) (h:K (ofN c [0])):netlists_Inputs_wp c K:=of_vc hc (by decide) h
theorem states_vc {c:Circ}{K:List Nat->Prop} (hc:c.nodes.length<2 ^ 40) (h:K (ofN c [14])):netlists_States_wp c K:=of_vc hc (by decide) h
theorem ofN_mem {c:Circ}{k f:Nat}:f∈ofN c [k]↔f<c.nodes.length/\kd c f=k:=by
 unfold ofN kd
 rw[List.mem_filter,List.mem_range]
 simp only[List.contains_cons,List.contains_nil,Bool.or_false,beq_iff_eq]
theorem ofN_len (c:Circ) (ks:List Nat):(ofN c ks).length<=c.nodes.length:=by
 unfold ofN;exact Nat.le_trans (List.length_filter_le _ _) (by simp)
theorem ofN_nodup (c:Circ) (ks:List Nat):(ofN c ks).Nodup:=List.Pairwise.filter _ List.nodup_range
structure Cir (c:Circ):Prop where
 good:Good c
 mems:c.mems=[]
 kinds:∀ (i:Nat) (x:Node),c.nodes[i]?=some x->x.kind<=14
theorem Cir.len {c:Circ} (C:Cir c):c.nodes.length<=16:=C.good.len
theorem ord_inj {c:Circ}{o:List Nat} (h:OrdOk c o) {a b m:Nat} (h1:o[a]?=some m) (h2:o[b]?=some m):a=b:=by
 have hn:o.Nodup:=h.perm.nodup_iff.2 List.nodup_range
 obtain⟨q1,q2⟩:=List.getElem?_eq_some_iff.1 h1
 obtain⟨q3,q4⟩:=List.getElem?_eq_some_iff.1 h2
 rcases Nat.lt_trichotomy a b with q|q|q
 ·exact absurd (q2.trans q4.symm) (List.pairwise_iff_getElem.1 hn a b q1 q3 q)
 ·exact q
 ·exact absurd (q4.trans q2.symm) (List.pairwise_iff_getElem.1 hn b a q3 q1 q)
structure PatOk (c:Circ) (p:Pat):Prop where
 inp:p.inp.length=(ofN c [0]).length
 state:p.state.length=(ofN c [14]).length
 inpv:∀ v∈p.inp,v<=3
 statev:∀ v∈p.state,v<=3
theorem simsAbove_vc {l:List Nat}{K:Bool->Prop} (hl:l.length<2 ^ 60) (hv:∀ v∈l,v<=3) (h:K false):cf_simsAbove_wp l K:=by
 unfold cf_simsAbove_wp cf_simsAboveI_wp
 refine search_none (l:=l) ?_ ?_ h
 ·intro k i nx x hx hi hn
  have hv:=hv x (List.mem_of_getElem? hx)
  refine⟨fun _=>⟨x,hx,fun q=>?_,fun _=>⟨by omega,hn⟩⟩,fun q=>?_⟩
  ·have:=lt_t.1 q;omega
  ·have:=lt_f.1 q;omega
 ·intro k i nx hi hk
  refine⟨fun q=>?_,fun _=>hk⟩
  have:=lt_t.1 q;omega
theorem Cir.noMem {c:Circ} (C:Cir c):ofN c [15]=[]:=by
 refine List.eq_nil_iff_forall_not_mem.2 fun i m=>?_
 obtain⟨h1,h2⟩:=ofN_mem.1 m
 obtain⟨y,hy⟩:=get_lt h1
 rw[kd_eq hy] at h2
 have:=C.kinds i y hy
 omega
theorem fits_vc {c:Circ} (C:Cir c) {pt:Pat} (hp:PatOk c pt) {K:Nat->Prop} (h:K 0):sims_fits_wp c pt K:=by
 have hlen:=C.len
 have l1:=ofN_len c [0]
 have l2:=ofN_len c [14]
 have h1:=hp.inp
 have h2:=hp.state
 unfold sims_fits_wp
 refine joinB' (a:=false) (fun F=>⟨fun q=>?_,fun _=>of_vc (by omega) (by decide) ?_⟩) ⟨(fun e=>by cases e),fun _=>?_⟩
 ·rw[C.mems] at q;exact absurd (lt_t.1 q) (by simp)
 ·rw[C.noMem];exact F
 refine joinB' (a:=false) (fun F=>inputs_vc (by omega) ⟨fun q=>absurd h1 (ne_t.1 q),fun _=>states_vc (by omega) ?_⟩) ⟨(fun e=>by cases e),fun _=>?_⟩
 ·rw[ne_f.2 h2];exact F
 refine joinB' (a:=false) (fun F=>simsAbove_vc (by omega) hp.inpv ⟨(fun e=>by cases e),fun _=>simsAbove_vc (by omega) hp.statev F⟩) ⟨(fun e=>by cases e),fun _=>h⟩
def combB (k:Nat):Bool:=decide (1<=k/\k<=13)
def readV (pn:Nat->Nat->Nat->Nat) (t:List Nat) (m:Nat) (x:Node):List Nat:=x.ins.mapIdx fun j k=>pn m j (t.getD k 0)
def srcV (c:Circ) (p:Pat) (i:Nat):Nat:=if kd c i=0 then p.inp.getD ((ofN c [0]).idxOf i) 0 else if kd c i=14 then p.state.getD ((ofN c [14]).idxOf i) 0 else 0
def baseV (c:Circ) (p:Pat) (pn:Nat->Nat->Nat->Nat) (t:List Nat) (m:Nat) (x:Node):Nat:=if combB x.kind=true then evalG x.kind (readV pn t m x) else srcV c p m
structure Sol (c:Circ) (p:Pat) (nt:Nat->Nat->Nat) (pn:Nat->Nat->Nat->Nat) (t:List Nat):Prop where
 len:t.length=c.nodes.length
 val:∀ i x,c.nodes[i]?=some x->t.getD i 0=nt i (baseV c p pn t i x)
 le:∀ i,t.getD i 0<=3
theorem readV_len {pn:Nat->Nat->Nat->Nat}{t:List Nat}{m:Nat}{x:Node}:(readV pn t m x).length=x.ins.length:=by unfold readV;simp
theorem readV_get {pn:Nat->Nat->Nat->Nat}{t:List Nat}{m j y:Nat}{x:Node} (h:x.ins[j]?=some y):(readV pn t m x)[j]?=some (pn m j (t.getD y 0)):=by
 unfold readV;rw[List.getElem?_mapIdx,h];rfl
theorem readV_congr {pn:Nat->Nat->Nat->Nat}{t u:List Nat}{m:Nat}{x:Node} (h:∀ k∈x.ins,t.getD k 0=u.getD k 0):readV pn t m x=readV pn u m x:=by
 unfold readV
 refine List.ext_getElem (by simp) fun i a b=>?_
 simp only[List.getElem_mapIdx]
 rw[h _ (List.getElem_mem _)]
theorem readV_le {pn:Nat->Nat->Nat->Nat} (hp:∀ m j v,v<=3->pn m j v<=3) {t:List Nat} (ht:∀ i,t.getD i 0<=3) {m:Nat}{x:Node}:∀ v∈readV pn t m x,v<=3:=by
 intro v h
 unfold readV at h
 rw[List.mem_mapIdx] at h
 obtain⟨i,hi,rfl⟩:=h
 exact hp _ _ _ (ht _)
theorem Sol.eq {c:Circ} (C:Cir c) {p:Pat}{nt:Nat->Nat->Nat}{pn:Nat->Nat->Nat->Nat}{t u:List Nat} (T:Sol c p nt pn t) (U:Sol c p nt pn u):t=u:=by
 have key:∀ n i,i<n->t.getD i 0=u.getD i 0:=by
  intro n
  induction n with
  |zero=>intro i h;omega
  |succ n ih =>
   intro i hi
   by_cases q:i<c.nodes.length
   ·obtain⟨x,hx⟩:=get_lt q
    rw[T.val i x hx,U.val i x hx]
    congr 1
    unfold baseV
    split
    ·rename_i hc
     have hc:=of_decide_eq_true hc
     rw[readV_congr fun k m=>ih k ?_]
     have:=(C.good.node i x hx).acyc hc.1 hc.2 k m
     omega
    ·rfl
   ·rw[List.getD,List.getD,List.getElem?_eq_none (by rw[T.len];omega),List.getElem?_eq_none (by rw[U.len];omega)]
 refine List.ext_getElem (T.len.trans U.len.symm) fun i a b=>?_
 have:=key (i+1) i (by omega)
 rw[List.getD,List.getElem?_eq_getElem a,List.getD,List.getElem?_eq_getElem b] at this
 exact this
theorem load_vc {n:Nat}{ixs vs:List Nat} (_hn:n<=16) (_hix:ixs.length<=n) (hl:vs.length=ixs.length) (_hb:∀ f∈ixs,f<n) (nd:ixs.Nodup) {t0:List Nat} (ht0:t0.length=n) {rest:List Nat->Prop}{body:List Nat×Nat->(List Nat×Nat->Prop)->Prop}
  (hbody:∀ t i nx,t.length=n->(∀ f v,i<ixs.length->ixs[i]?=some f->vs[i]?=some v->f<n->nx (t.set f v,i+1))->(ixs.length<=i->rest t)->body (t,i) nx)
  (h:∀ t,t.length=n->(∀ j f,ixs[j]?=some f->t.getD f 0=vs.getD j 0)->(∀ f,f ∉ ixs->t.getD f 0=t0.getD f 0)->rest t):loopW body (t0,0):=by
 refine loopW_intro (fun s=>s.2<=ixs.length/\s.1.length=n/\(∀ j f,j<s.2->ixs[j]?=some f->s.1.getD f 0=vs.getD j 0)/\∀ f,f ∉ ixs.take s.2->s.1.getD f 0=t0.getD f 0) (fun s=>ixs.length-s.2) ?_ ⟨Nat.zero_le _,ht0,(fun j f hj=>absurd hj (Nat.not_lt_zero _)),fun _ _=>rfl⟩
 rintro⟨t,i⟩ nx ⟨hi,h1,h2,h3⟩ hnx
 dsimp only at hi h1 h2 h3
 refine hbody t i nx h1 (fun f v q hf hv hfn=>?_) (fun q=>?_)
 ·obtain⟨e1,e2⟩:=List.getElem?_eq_some_iff.1 hf
  have ev:v=vs.getD i 0:=by rw[List.getD,hv];rfl
  subst ev
  refine hnx _ ⟨q,by simp[h1],fun j g hj hg=>?_,fun g hg=>?_⟩ (by dsimp only;omega)
  ·dsimp only at hj ⊢
   rw[getD_set (by omega)]
   by_cases e:f=g
   ·subst e
    have:j=i:=by
     obtain⟨e3,e4⟩:=List.getElem?_eq_some_iff.1 hg
     rcases Nat.lt_trichotomy j i with w|w|w
     ·exact absurd (e4.trans e2.symm) (List.pairwise_iff_getElem.1 nd j i e3 e1 w)
     ·exact w
     ·omega
    subst this
    rw[if_pos rfl]
   ·rw[if_neg e]
    refine h2 j g ?_ hg
    by_cases e3:j=i
    ·subst e3;rw[hf] at hg;cases hg;exact absurd rfl e
    ·omega
  ·dsimp only at hg ⊢
   rw[List.take_succ_eq_append_getElem e1,List.mem_append,List.mem_singleton,e2] at hg
   rw[getD_set (by omega),if_neg (fun e=>hg (.inr e.symm))]
   exact h3 g fun m=>hg (.inl m)
 ·rw[List.take_of_length_le q] at h3
  exact h t h1 (fun j f hj=>h2 j f (by have:=lt_of_get hj;omega) hj) h3
theorem loadStep {n:Nat}{ixs vs t:List Nat}{i:Nat}{rest:Prop}{nx:List Nat×Nat->Prop} (hn:n<=16) (hix:ixs.length<=n) (hl:vs.length=ixs.length) (hb:∀ f∈ixs,f<n) (ht:t.length=n) (h1:∀ f v,i<ixs.length->ixs[i]?=some f->vs[i]?=some v->f<n->nx (t.set f v,i+1)) (h2:ixs.length<=i->rest) :
  ((ltN i ixs.length)=true->∃ x35,ixs[i]?=some x35/\∃ x36,vs[i]?=some x36/\x35<n/\∃ x37,t[x35]?=some x37/\i+1<2 ^ 63/\nx ((t.set x35 x36),(i+1)))/\((ltN i ixs.length)=false->rest):=by
 refine⟨fun q=>?_,fun q=>h2 (lt_f.1 q)⟩
 have q:i<ixs.length:=lt_t.1 q
 obtain⟨f,hf⟩:=get_lt q
 have hfn:=hb f (List.mem_of_getElem? hf)
 have hv:=getD_some (l:=vs) (i:=i) (by omega)
 exact⟨f,hf,_,hv,hfn,_,getN ht hfn,by omega,h1 f _ q hf hv hfn⟩
theorem idx_of {l:List Nat} (nd:l.Nodup) {j f:Nat} (h:l[j]?=some f):l.idxOf f=j:=by
 obtain⟨h1,rfl⟩:=List.getElem?_eq_some_iff.1 h
 exact nd.idxOf_getElem j h1
theorem loads_vc {c:Circ} (C:Cir c) {p:Pat} (hp:PatOk c p) {t1 t2:List Nat} (_l2:t2.length=c.nodes.length) (h1:∀ j f,(ofN c [0])[j]?=some f->t1.getD f 0=p.inp.getD j 0) (h2:∀ j f,(ofN c [14])[j]?=some f->t2.getD f 0=p.state.getD j 0) (h3:∀ f,f ∉ ofN c [14]->t2.getD f 0=t1.getD f 0) :
  ∀ i x,c.nodes[i]?=some x->combB x.kind=false->t2.getD i 0=srcV c p i/\t2.getD i 0<=3:=by
 intro i x hx hc
 have hc:=of_decide_eq_false hc
 have hk:=C.kinds i x hx
 have hi:=lt_of_get hx
 have e:=kd_eq hx
 unfold srcV
 by_cases k0:x.kind=0
 ·have m:i∈ofN c [0]:=ofN_mem.2 ⟨hi,by rw[e];exact k0⟩
  obtain⟨j,hj,ej⟩:=List.getElem_of_mem m
  have hj':(ofN c [0])[j]?=some i:=by rw[List.getElem?_eq_getElem hj,ej]
  have hn:i ∉ ofN c [14]:=fun q=>by have:=(ofN_mem.1 q).2;omega
  rw[h3 i hn,h1 j i hj',if_pos (by rw[e];exact k0),idx_of (ofN_nodup c [0]) hj']
  exact⟨rfl,hp.inpv _ (getD_mem (by rw[hp.inp];exact hj))⟩
 ·have k14:x.kind=14:=by omega
  have m:i∈ofN c [14]:=ofN_mem.2 ⟨hi,by rw[e];exact k14⟩
  obtain⟨j,hj,ej⟩:=List.getElem_of_mem m
  have hj':(ofN c [14])[j]?=some i:=by rw[List.getElem?_eq_getElem hj,ej]
  rw[h2 j i hj',if_neg (by rw[e];exact k0),if_pos (by rw[e];exact k14),idx_of (ofN_nodup c [14]) hj']
  exact⟨rfl,hp.statev _ (getD_mem (by rw[hp.state];exact hj))⟩
structure RunS (c:Circ) (p:Pat) (nt:Nat->Nat->Nat) (pn:Nat->Nat->Nat->Nat) (o t:List Nat) (i:Nat):Prop where
 len:t.length=c.nodes.length
 done:∀ j m x,j<i->o[j]?=some m->c.nodes[m]?=some x->t.getD m 0=nt m (baseV c p pn t m x)
 todo:∀ j m x,i<=j->o[j]?=some m->c.nodes[m]?=some x->combB x.kind=false->t.getD m 0=srcV c p m
 le:∀ i,t.getD i 0<=3
theorem RunS.step {c:Circ}{p:Pat}{nt:Nat->Nat->Nat}{pn:Nat->Nat->Nat->Nat}{o t:List Nat} (ho:OrdOk c o) {i m:Nat}{x:Node} (T:RunS c p nt pn o t i) (hm:o[i]?=some m) (hx:c.nodes[m]?=some x) (hle:nt m (baseV c p pn t m x)<=3):RunS c p nt pn o (t.set m (nt m (baseV c p pn t m x))) (i+1):=by
 have hml:m<t.length:=by rw[T.len];exact lt_of_get hx
 have same:∀ (j m':Nat) (x':Node),j<=i->o[j]?=some m'->c.nodes[m']?=some x'->baseV c p pn (t.set m (nt m (baseV c p pn t m x))) m' x'=baseV c p pn t m' x':=by
  intro j m' x' hj h1 h2
  unfold baseV
  split
  ·rename_i hc
   have hc:=of_decide_eq_true hc
   rw[readV_congr fun k hk=>?_]
   rw[getD_set hml,if_neg]
   rintro rfl
   obtain⟨b',hb,hb2⟩:=ho.before j m' x' m h1 h2 hc hk
   have:=ord_inj ho hb2 hm
   omega
  ·rfl
 refine⟨by rw[List.length_set];exact T.len,fun j m' x' hj h1 h2=>?_,fun j m' x' hj h1 h2 h3=>?_,fun k=>?_⟩
 ·rw[same j m' x' (by omega) h1 h2,getD_set hml]
  by_cases e:m=m'
  ·subst e
   rw[if_pos rfl]
   rw[hx] at h2;cases h2
   rfl
  ·rw[if_neg e]
   refine T.done j m' x' ?_ h1 h2
   by_cases e2:j=i
   ·subst e2;rw[hm] at h1;cases h1;exact absurd rfl e
   ·omega
 ·rw[getD_set hml,if_neg]
  ·exact T.todo j m' x' (by omega) h1 h2 h3
  ·rintro rfl
   have:=ord_inj ho hm h1
   omega
 ·rw[getD_set hml]
  split
  ·exact hle
  ·exact T.le k
theorem RunS.skip {c:Circ}{p:Pat}{nt:Nat->Nat->Nat}{pn:Nat->Nat->Nat->Nat}{o t:List Nat}{i m:Nat}{x:Node} (T:RunS c p nt pn o t i) (hm:o[i]?=some m) (hx:c.nodes[m]?=some x) (he:t.getD m 0=nt m (baseV c p pn t m x)):RunS c p nt pn o t (i+1):=by
 refine⟨T.len,fun j m' x' hj h1 h2=>?_,fun j m' x' hj=>T.todo j m' x' (by omega),T.le⟩
 by_cases e:j=i
 ·subst e
  rw[hm] at h1;cases h1
  rw[hx] at h2;cases h2
  exact he
 ·exact T.done j m' x' (by omega) h1 h2
theorem RunS.sol {c:Circ}{p:Pat}{nt:Nat->Nat->Nat}{pn:Nat->Nat->Nat->Nat}{o t:List Nat} (ho:OrdOk c o) (T:RunS c p nt pn o t o.length):Sol c p nt pn t:=by
 refine⟨T.len,fun i x hx=>?_,T.le⟩
 have hm:i∈o:=ho.perm.mem_iff.2 (List.mem_range.2 (lt_of_get hx))
 obtain⟨j,hj,e⟩:=List.getElem_of_mem hm
 exact T.done j i x hj (by rw[List.getElem?_eq_getElem hj,e]) hx
def rspV (c:Circ) (pn:Nat->Nat->Nat->Nat) (t:List Nat):Rsp:=⟨c.outs.map fun o=>t.getD o 0,(ofN c [14]).map fun s=>min (pn s 0 (t.getD ((insOf c s).getD 0 0) 0)) 2⟩
def idN:Nat->Nat->Nat:=fun _ v=>v
def idP:Nat->Nat->Nat->Nat:=fun _ _ v=>v
theorem value_vc {r:SRun}{n:Nat} (hn:n<r.nets.length) (hv:r.nets.getD n 0<=3) {K:Nat->Prop} (h:K (r.nets.getD n 0)):run_value_wp r n K:=by
 unfold run_value_wp
 refine joinB' (a:=false) (fun F=>⟨fun q=>absurd (lt_t.1 q) (Nat.not_lt_zero _),fun _=>?_⟩) ⟨(fun e=>by cases e),fun _=>⟨_,getD_some hn,clean_vc ?_⟩⟩
 ·rw[show (!ltN n r.nets.length)=false from nlt_f.2 hn];exact F
 ·unfold cleanN;rw[if_neg (by omega)];exact h
theorem insOf_eq {c:Circ}{i:Nat}{x:Node} (h:c.nodes[i]?=some x):insOf c i=x.ins:=by unfold insOf;rw[List.getD,List.getElem?_map,h];rfl
theorem observe_vc {c:Circ} (C:Cir c) {t:List Nat} (ht:t.length=c.nodes.length) (hle:∀ i,t.getD i 0<=3) {K:Rsp->Prop} (h:K (rspV c idP t)):run_observe_wp ⟨c,t⟩ K:=by
 have hlen:=C.len
 have hol:=C.good.outsLen
 have l2:=ofN_len c [14]
 unfold run_observe_wp
 refine joinLoop (fun s=>s.2<=c.outs.length/\s.1=(c.outs.take s.2).map fun o=>t.getD o 0) (fun s=>c.outs.length-s.2) (fun a=>a=c.outs.map fun o=>t.getD o 0) ?_ ⟨Nat.zero_le _,rfl⟩ ?_
 ·rintro k ⟨l,i⟩ nx ⟨hi,hl⟩ hnx hk
  dsimp only at hi hl
  refine⟨fun q=>?_,fun q=>hk _ ?_⟩
  ·have q:i<c.outs.length:=lt_t.1 q
   obtain⟨o,ho⟩:=get_lt q
   obtain⟨e1,e2⟩:=List.getElem?_eq_some_iff.1 ho
   have hon:o<t.length:=by rw[ht];exact C.good.outs o (List.mem_of_getElem? ho)
   refine⟨o,ho,value_vc (r:=⟨c,t⟩) hon (hle o) ⟨by rw[hl];simp only[List.length_map,List.length_take,List.length_singleton];omega,by omega,hnx _ ⟨q,?_⟩ (by dsimp only;omega)⟩⟩
   dsimp only
   rw[hl,List.take_succ_eq_append_getElem e1,List.map_append,e2]
   rfl
  ·have q:c.outs.length<=i:=lt_f.1 q
   rw[hl,List.take_of_length_le q]
 rintro _ rfl
 refine joinI (states_vc (show c.nodes.length<2 ^ 40 by omega) ?_)
 refine loopW_intro (fun s=>s.2<=(ofN c [14]).length/\s.1=((ofN c [14]).take s.2).map fun s=>min (t.getD ((insOf c s).getD 0 0) 0) 2) (fun s=>(ofN c [14]).length-s.2) ?_ ⟨Nat.zero_le _,rfl⟩
 rintro⟨l,i⟩ nx ⟨hi,hl⟩ hnx
 dsimp only at hi hl
 refine⟨fun q=>?_,fun q=>?_⟩
 ·have q:i<(ofN c [14]).length:=lt_t.1 q
  obtain⟨f,hf⟩:=get_lt q
  obtain⟨e1,e2⟩:=List.getElem?_eq_some_iff.1 hf
  obtain⟨hfn,hfk⟩:=ofN_mem.1 (List.mem_of_getElem? hf)
  obtain⟨x,hx⟩:=get_lt hfn
  rw[kd_eq hx] at hfk
  have hg:=C.good.node f x hx
  have ha:x.ins.length=1:=by have:=hg.arity;rw[hfk] at this;exact arity_dff this
  have hd:=hg.ins (x.ins.getD 0 0) (getD_mem (by omega))
  refine⟨f,hf,joinI ⟨x,hx,fun _=>⟨_,getD_some (by omega),value_vc (r:=⟨c,t⟩) (by rw[ht];exact hd) (hle _) ?_⟩,fun e=>absurd ha (eq_f.1 e)⟩⟩
  unfold logic_Read_wp
  refine⟨by rw[hl];simp only[List.length_map,List.length_take,List.length_singleton];omega,by omega,hnx _ ⟨q,?_⟩ (by dsimp only;omega)⟩
  dsimp only
  rw[hl,List.take_succ_eq_append_getElem e1,List.map_append,e2]
  simp only[List.map_cons,List.map_nil,insOf_eq hx]
 ·have q:(ofN c [14]).length<=i:=lt_f.1 q
  rw[hl,List.take_of_length_le q]
  exact h
end Go.Proofs.YteceaohcjmbfbaaGreatDoor
