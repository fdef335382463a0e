/-
  Co4, Co5, Cir12, Co7, Cob, Coc, Cod, Coe, Cof, CollapsesPairs: parts of the proof.
-/
import Derived.Test.YtobphhjcadjfjaaDoorSf49
namespace Go.Proofs.YtobphhjcadjfjaaDoor
open Go.Abs
set_option maxRecDepth 100000
def n2Lt (x y:N2):Prop:=x.a<y.a\/x.a=y.a/\x.b<y.b
theorem Am {x y:N2} (h:x≠y):x.a≠y.a\/x.b≠y.b:=by
 by_cases h1:x.a=y.a
 ·right
  intro h2
  obtain⟨a,b⟩:=x
  obtain⟨a',b'⟩:=y
  dsimp only at h1 h2
  exact h (by rw[h1,h2])
 ·exact .inl h1
theorem ss {l:List N2} (h:l.Pairwise tY):(dy l).Pairwise n2Lt/\∀ x,x∈dy l↔x∈l:=by
 revert h
 refine jN (P:=fun l=>l.Pairwise tY->(dy l).Pairwise n2Lt/\∀ x,x∈dy l↔x∈l) ?_ ?_ l
 ·intro _
  exact⟨List.Pairwise.nil,fun x=>Iff.rfl⟩
 ·intro p x ih h
  obtain⟨h1,_,h3⟩:=List.pairwise_append.1 h
  obtain⟨i1,i2⟩:=ih h1
  have hle:∀ y∈dy p,tY y x:=fun y m=>h3 y ((i2 y).1 m) x (List.mem_singleton.2 rfl)
  rw[mu]
  unfold fy
  split
  ·rename_i e
   refine⟨i1,fun y=>?_⟩
   rw[i2,aO]
   constructor
   ·exact .inl
   ·rintro (m|rfl)
    ·exact m
    ·exact (i2 y).1 (List.mem_of_getLast? e)
  ·rename_i e
   refine⟨List.pairwise_append.2 ⟨i1,List.pairwise_singleton _ _,fun y hy z hz=>?_⟩,fun y=>by rw[aO,aO,i2]⟩
   rw[List.mem_singleton] at hz
   subst hz
   rcases List.eq_nil_or_concat (dy p) with q|⟨q,w,hq⟩
   ·rw[q] at hy;cases hy
   ·rw[List.concat_eq_append] at hq
    have hw:w≠z:=by
     rintro rfl
     rw[hq,List.getLast?_concat] at e
     exact e rfl
    have hwz:=xL.1 (hle w (by rw[hq];exact aO.2 (.inr rfl)))
    have hne:=Am hw
    rw[hq] at hy i1
    rcases aO.1 hy with m|rfl
    ·have:n2Lt y w:=(List.pairwise_append.1 i1).2.2 y m w (List.mem_singleton.2 rfl)
     unfold n2Lt at this ⊢
     omega
    ·unfold n2Lt
     omega
def dX (k:Nat):Option Rul:=if k=5 then some ⟨0,0⟩ else if k=6 then some ⟨0,1⟩ else if k=7 then some ⟨1,1⟩ else if k=8 then some ⟨1,0⟩ else none
theorem xQ {k:Nat}{r:Rul} (h:dX k=some r):r.pin<=1/\r.out<=1:=by
 unfold dX at h
 split at h
 ·cases h;decide
 split at h
 ·cases h;decide
 split at h
 ·cases h;decide
 split at h
 ·cases h;decide
 ·cases h
theorem rj {k:Nat}{K:Rul×Bool->Prop} (h1:∀ r,dX k=some r->K (r,true)) (h2:dX k=none->K (⟨0,0⟩,false)):aW k K:=by
 refine mM (fun q=>h1 _ ?_) (fun q=>h1 _ ?_) (fun q=>h1 _ ?_) (fun q=>h1 _ ?_) fun q5 q6 q7 q8=>h2 ?_
 ·subst q;rfl
 ·subst q;rfl
 ·subst q;rfl
 ·subst q;rfl
 ·unfold dX
  rw[if_neg q5,if_neg q6,if_neg q7,if_neg q8]
def ep (n j:Nat) (r:Rul):Si:=⟨n,j+1,1-r.pin⟩
def eE (n:Nat) (r:Rul):Si:=⟨n,0,1-r.out⟩
def jI (c:Circ) (ks:List Flt) (n b:Nat) (r:Rul) (j:Nat):List N2:=match ixO ks (fltS (clsN c (ep n j r))) with
 |some a=>[⟨a,b⟩]
 |none=>[]
def iC (c:Circ) (ks:List Flt) (n b:Nat) (r:Rul) (t:Nat):List N2:=(List.range t).flatMap (jI c ks n b r)
def fE (c:Circ) (ks:List Flt) (n:Nat):List N2:=match dX (kd c n) with
 |none=>[]
 |some r=>match ixO ks (fltS (clsN c (eE n r))) with
  |none=>[]
  |some b=>iC c ks n b r (insOf c n).length
def domRaw (c:Circ) (ks:List Flt) (i:Nat):List N2:=(List.range i).flatMap (fE c ks)
theorem gA (c:Circ) (ks:List Flt) (i:Nat):domRaw c ks (i+1)=domRaw c ks i++fE c ks i:=by
 unfold domRaw
 rw[List.range_succ,List.flatMap_append]
 simp
theorem js (c:Circ) (ks:List Flt) (n b:Nat) (r:Rul) (t:Nat):iC c ks n b r (t+1)=iC c ks n b r t++jI c ks n b r t:=by
 unfold iC
 rw[List.range_succ,List.flatMap_append]
 simp
theorem tL (c:Circ) (ks:List Flt) (n b:Nat) (r:Rul) (j:Nat):(jI c ks n b r j).length<=1:=by
 unfold jI
 split <;> simp
theorem kC (c:Circ) (ks:List Flt) (n b:Nat) (r:Rul):∀ t,(iC c ks n b r t).length<=t
 |0=>Nat.le_refl _
 |t+1=>by
  rw[js,List.length_append]
  have:=kC c ks n b r t
  have:=tL c ks n b r t
  omega
theorem ir {c:Circ} (C:Cir c) (ks:List Flt):∀ i,i<=c.nodes.length->(domRaw c ks i).length<=i*16
 |0,_=>Nat.le_refl _
 |i+1,h=>by
  have:=ir C ks i (by omega)
  rw[gA,List.length_append]
  obtain⟨x,hx⟩:=aX (show i<c.nodes.length from h)
  have hf:=(C.good.node i x hx).few
  have:(fE c ks i).length<=16:=by
   unfold fE
   split
   ·exact Nat.zero_le _
   ·split
    ·exact Nat.zero_le _
    ·rename_i r _ _ b _
     have:=kC c ks i b r (insOf c i).length
     rw[bS hx] at this ⊢
     omega
  omega
theorem uN {ks:List Flt}{k:Flt}{a:Nat}:ixO ks k=some a↔k∈ks/\ks.idxOf k=a:=by
 unfold ixO
 by_cases m:k∈ks
 ·rw[if_pos m]
  simp[m]
 ·rw[if_neg m]
  simp[m]
theorem rO {c:Circ}{ks:List Flt}{i:Nat}{x:N2}:x∈domRaw c ks i ↔ ∃ n r j,n<i/\dX (kd c n)=some r/\j<(insOf c n).length/\fltS (clsN c (ep n j r))∈ks/\fltS (clsN c (eE n r))∈ks/\x=⟨ks.idxOf (fltS (clsN c (ep n j r))),ks.idxOf (fltS (clsN c (eE n r)))⟩:=by
 unfold domRaw
 rw[List.mem_flatMap]
 constructor
 ·rintro⟨n,hn,m⟩
  unfold fE at m
  split at m
  ·cases m
  ·rename_i r hr
   split at m
   ·cases m
   ·rename_i b hb
    obtain⟨j,hj,m⟩:=List.mem_flatMap.1 m
    unfold jI at m
    split at m
    ·rename_i a ha
     obtain⟨a1,a2⟩:=uN.1 ha
     obtain⟨b1,b2⟩:=uN.1 hb
     rw[List.mem_singleton] at m
     exact⟨n,r,j,List.mem_range.1 hn,hr,List.mem_range.1 hj,a1,b1,by rw[m,a2,b2]⟩
    ·cases m
 ·rintro⟨n,r,j,hn,hr,hj,h1,h2,rfl⟩
  refine⟨n,List.mem_range.2 hn,?_⟩
  unfold fE
  rw[hr]
  dsimp only
  rw[lM h2]
  refine List.mem_flatMap.2 ⟨j,List.mem_range.2 hj,?_⟩
  unfold jI
  rw[lM h1]
  exact List.mem_singleton.2 rfl
structure DomOk (c:Circ) (ks:List Flt) (r:List N2):Prop where
 sorted:r.Pairwise n2Lt
 mem:∀ x,x∈r↔x∈domRaw c ks c.nodes.length
 len:r.length<=256
theorem DomOk.lt {c:Circ}{ks:List Flt}{r:List N2} (D:DomOk c ks r) {x:N2} (h:x∈r):x.a<ks.length/\x.b<ks.length:=by
 obtain⟨n,r,j,_,_,_,h1,h2,rfl⟩:=rO.1 ((D.mem x).1 h)
 exact⟨List.idxOf_lt_length_iff.2 h1,List.idxOf_lt_length_iff.2 h2⟩
theorem oS {c:Circ}{n j:Nat}{r:Rul} (hn:n<c.nodes.length) (hj:j<(insOf c n).length):VS c (ep n j r):=⟨hn,hj,by unfold ep;dsimp only;omega⟩
theorem oA {c:Circ}{n:Nat}{r:Rul} (hn:n<c.nodes.length):VS c (eE n r):=⟨hn,Nat.zero_le _,by unfold eE;dsimp only;omega⟩
theorem gE {c:Circ} (C:Cir c) {ks:List Flt} (hk:ks.length<=65536) {ps:List Nat} (U:EdgeI c (edgesN c) ps) {cs:List (Nat×Nat)} (hcs:CsOk c ks ps cs) {R:List (List Nat)}{os:List Nat}{K:List Nat×List N2->Prop}
  (h:∀ qs r,DomOk c ks r->K (qs,r)):bd (npN c) (fsN c) ps R os cs c K:=by
 have hlen:=C.len
 unfold bd
 refine aR (fun s=>s.2.2<=c.nodes.length/\SameR ps s.1/\s.2.1=domRaw c ks s.2.2) (fun s=>c.nodes.length-s.2.2) (fun s=>s.1=domRaw c ks c.nodes.length) ?_ ⟨Nat.zero_le _,SameR.refl ps,rfl⟩ ?_
 ·rintro k ⟨qs,out,i⟩ nx ⟨hi,hS,ho⟩ hnx hk2
  dsimp only at hi hS ho
  refine⟨fun q=>?_,fun q=>hk2 _ ?_⟩
  ·have q:i<c.nodes.length:=bG.1 q
   obtain⟨x,hx⟩:=aX q
   have hfew:=(C.good.node i x hx).few
   have hol:out.length<=i*16:=by rw[ho];exact ir C ks i hi
   refine eZ (fun s=>SameR ps s.1/\s.2=domRaw c ks (i+1)) (fun k3 hk3=>⟨x,hx,?_⟩) fun s hs=>⟨by omega,hnx _ ⟨q,hs.1,hs.2⟩ (by dsimp only;omega)⟩
   have U1:=U.same hS
   refine rj (fun r hr=>⟨fun e=>(by cases e),fun _=>?_⟩) fun hr=>⟨fun _=>hk3 _ ⟨hS,?_⟩,fun e=>(by cases e)⟩
   ·have hrle:=xQ hr
    have hr':dX (kd c i)=some r:=by rw[kl hx];exact hr
    have v1:=oA (c:=c) (r:=r) q
    obtain⟨rt,hrt⟩:=U1.fo (numN c (eE i r)) (U1.len ▸ iv v1)
    refine⟨hrle.2,by decide,oM C v1 (s:=eE i r) (by rfl) (lJ U1.len hrt fun ws hw=>?_)⟩
    dsimp only
    have hS2:=hS.trans hw
    have hget:=hcs.same U.fo hS (eE i r) v1 rt hrt
    have hnode:fE c ks i=match ixO ks (fltS (clsN c (eE i r))) with|none=>[] | some b=>iC c ks i b r (insOf c i).length:=by
     unfold fE
     rw[hr']
    rw[hget]
    cases hb:ixO ks (fltS (clsN c (eE i r))) with
    |none =>
     rw[hb] at hnode
     refine⟨fun _=>hk3 _ ⟨hS2,?_⟩,fun e=>(by cases e)⟩
     dsimp only
     rw[gA,hnode,List.append_nil,ho]
    |some b =>
     rw[hb] at hnode
     dsimp only at hnode
     refine⟨fun e=>(by cases e),fun _=>?_⟩
     refine bg (fun s=>s.2.2<=x.ins.length/\SameR ps s.1/\s.2.1=domRaw c ks i++iC c ks i b r s.2.2) (fun s=>x.ins.length-s.2.2) ?_ ⟨Nat.zero_le _,hS2,by rw[ho];simp[iC]⟩
     rintro⟨ws,out,j⟩ nx4 ⟨hj,hS4,ho4⟩ hnx4
     dsimp only at hj hS4 ho4
     refine⟨fun q4=>?_,fun q4=>hk3 _ ⟨hS4,?_⟩⟩
     ·have q4:j<x.ins.length:=bG.1 q4
      have hol4:out.length<=512:=by
       rw[ho4,List.length_append]
       have:=ir C ks i hi
       have:=kC c ks i b r j
       omega
      have v2:VS c (ep i j r):=oS q (by rw[bS hx];exact q4)
      have U4:=U.same hS4
      obtain⟨rt4,hrt4⟩:=U4.fo (numN c (ep i j r)) (U4.len ▸ iv v2)
      refine eZ (fun s=>SameR ps s.1/\s.2=domRaw c ks i++iC c ks i b r (j+1)) (fun k5 hk5=>⟨hrle.1,by decide,oM C v2 (s:=ep i j r) (by unfold ep;simp only[Int.ofNat_eq_natCast];omega) (lJ U4.len hrt4 fun ys hy=>?_)⟩) fun s hs=>⟨by dsimp only;omega,hnx4 _ ⟨q4,hs.1,hs.2⟩ (by dsimp only;omega)⟩
      dsimp only
      have hget4:=hcs.same U.fo hS4 (ep i j r) v2 rt4 hrt4
      rw[hget4]
      cases ha:ixO ks (fltS (clsN c (ep i j r))) with
      |none =>
       refine⟨fun e=>(by cases e),fun _=>hk5 _ ⟨hS4.trans hy,?_⟩⟩
       dsimp only
       rw[js,ho4]
       unfold jI
       rw[ha,List.append_nil]
      |some a =>
       refine⟨fun _=>⟨by rw[List.length_singleton];omega,hk5 _ ⟨hS4.trans hy,?_⟩⟩,fun e=>(by cases e)⟩
       dsimp only[Option.getD]
       rw[js,ho4]
       unfold jI
       rw[ha,List.append_assoc]
     ·have q4:x.ins.length<=j:=bP.1 q4
      obtain rfl:j=x.ins.length:=by omega
      dsimp only
      rw[gA,hnode,bS hx]
      exact ho4
   ·have hr':dX (kd c i)=none:=by rw[kl hx];exact hr
    dsimp only
    rw[gA,ho]
    unfold fE
    rw[hr',List.append_nil]
  ·have q:c.nodes.length<=i:=bP.1 q
   obtain rfl:i=c.nodes.length:=by omega
   exact ho
 ·rintro⟨out,qs⟩ ho
  dsimp only at ho ⊢
  subst ho
  have hl:=ir C ks _ (Nat.le_refl _)
  refine⟨by omega,fun x m=>?_,fun l hp hs=>⟨by rw[hp.length_eq];omega,h _ _ ?_⟩⟩
  ·obtain⟨n,r,j,_,_,_,h1,h2,rfl⟩:=rO.1 m
   have:=List.idxOf_lt_length_iff.2 h1
   have:=List.idxOf_lt_length_iff.2 h2
   exact⟨by dsimp only;omega,by dsimp only;omega⟩
  ·obtain⟨s1,s2⟩:=ss hs
   refine⟨s1,fun x=>(s2 x).trans hp.mem_iff,?_⟩
   have:=tf l
   have:=hp.length_eq
   omega
structure ListOk (c:Circ) (l:List Flt):Prop where
 len:l.length<=65536
 stuck:∀ f∈l,f.model=0->StuckOk c f
 check:∀ f∈l,∀ K:Nat->Prop,K 0->faults_Check_wp c f K
theorem od {c:Circ} (C:Cir c) {l:List Flt} (hl:ListOk c l) {K:List (List Nat)×Nat->Prop} (h:K (RN c l,0)):bp c l K:=by
 unfold bp
 exact jL C hl.len hl.check ⟨(fun q=>absurd rfl (eD.1 q)),fun _=>fF C hl.len hl.stuck fun _ _ _=>h⟩
theorem uq {c:Circ}{l:List Flt} (hl:ListOk c l):(ksF c l).length<=65536:=Nat.le_trans (nE _ _) hl.len
theorem kj {c:Circ} (C:Cir c) {l:List Flt} (hl:ListOk c l) {K:List N2×Nat->Prop} (h:∀ r,DomOk c (ksF c l) r->K (r,0)):aZ c l K:=by
 unfold aZ
 exact jL C hl.len hl.check ⟨(fun q=>absurd rfl (eD.1 q)),fun _=>fF C hl.len hl.stuck fun ps cs P=>gE C (uq hl) P.edge P.cs fun _ r hr=>h r hr⟩
theorem pP:∀ {r s:List N2},r.Pairwise n2Lt->s.Pairwise n2Lt->(∀ x,x∈r↔x∈s)->r=s
 |[],[],_,_,_=>rfl
 |[],b::s,_,_,h=>by have:=(h b).2 (List.mem_cons_self ..);cases this
 |a::r,[],_,_,h=>by have:=(h a).1 (List.mem_cons_self ..);cases this
 |a::r,b::s,h1,h2,h=>by
  obtain⟨a1,a2⟩:=List.pairwise_cons.1 h1
  obtain⟨b1,b2⟩:=List.pairwise_cons.1 h2
  have e:a=b:=by
   rcases List.mem_cons.1 ((h a).1 (List.mem_cons_self ..)) with q|q
   ·exact q
   ·rcases List.mem_cons.1 ((h b).2 (List.mem_cons_self ..)) with q2|q2
    ·exact q2.symm
    ·have:=b1 a q
     have:=a1 b q2
     unfold n2Lt at *
     omega
  subst e
  refine congrArg (a :: ·) (pP a2 b2 fun x=>?_)
  have:=h x
  rw[List.mem_cons,List.mem_cons] at this
  constructor
  ·intro m
   rcases this.1 (.inr m) with q|q
   ·subst q
    have:=a1 x m
    unfold n2Lt at this;omega
   ·exact q
  ·intro m
   rcases this.2 (.inr m) with q|q
   ·subst q
    have:=b1 x m
    unfold n2Lt at this;omega
   ·exact q
def jc (r:List N2) (i:Nat):Bool:=r.any fun x=>x.b==i
def gZ (c:Circ) (l:List Flt) (r:List N2) (i:Nat):List Nat:=if jc r i=true then [] else [((RN c l).getD i []).getD 0 0]
def fT (c:Circ) (l:List Flt) (r:List N2) (i:Nat):List Nat:=(List.range i).flatMap (gZ c l r)
theorem iT (c:Circ) (l:List Flt) (r:List N2) (i:Nat):fT c l r (i+1)=fT c l r i++gZ c l r i:=by
 unfold fT
 rw[List.range_succ,List.flatMap_append]
 simp
theorem ox (c:Circ) (l:List Flt) (r:List N2):∀ i,(fT c l r i).length<=i
 |0=>Nat.le_refl _
 |i+1=>by
  rw[iT,List.length_append]
  have:=ox c l r i
  have:(gZ c l r i).length<=1:=by unfold gZ;split <;> simp
  omega
theorem zK {c:Circ}{l:List Flt}{i:Nat} (h:i<(ksF c l).length):∃ k x t,(ksF c l)[i]?=some k/\(RN c l)[i]?=some (x::t)/\iD c l k=x::t:=by
 obtain⟨k,hk⟩:=aX h
 have hr:(RN c l)[i]?=some (iD c l k):=by unfold RN;rw[List.getElem?_map,hk];rfl
 obtain⟨f,hf,e⟩:=fu.1 (List.mem_of_getElem? hk)
 obtain⟨j,hj⟩:=List.mem_iff_getElem?.1 hf
 have m:j∈iD c l k:=lA.2 ⟨f,hj,e⟩
 cases hrow:iD c l k with
 |nil=>rw[hrow] at m;cases m
 |cons x t=>exact⟨k,x,t,hk,by rw[hr,hrow],hrow⟩
theorem yQ {c:Circ} (C:Cir c) {l:List Flt} (hl:ListOk c l) {K:List Nat×Nat->Prop} (h:∀ r,DomOk c (ksF c l) r->K (fT c l r (ksF c l).length,0)):cv c l K:=by
 have hlen:=hl.len
 have hks:=uq hl
 have hRl:=mg c l
 unfold cv
 refine jL C hl.len hl.check ⟨(fun q=>absurd rfl (eD.1 q)),fun _=>fF C hl.len hl.stuck fun ps cs P=>⟨by omega,by omega,?_⟩⟩
 refine eZ (fun s=>∃ r,DomOk c (ksF c l) r/\s.2.length=(ksF c l).length/\∀ i,i<(ksF c l).length->s.2[i]?=some (jc r i)) (fun k hk=>gE C hks P.edge P.cs fun qs r hr=>?_) ?_
 ·refine bg (fun s=>s.2<=r.length/\s.1.length=(ksF c l).length/\∀ i,i<(ksF c l).length->s.1[i]?=some (jc (r.take s.2) i)) (fun s=>r.length-s.2) ?_ ⟨Nat.zero_le _,by rw[List.length_replicate];exact hRl,fun i hi=>?_⟩
  ·rintro⟨bs,t⟩ nx ⟨ht,hb1,hb2⟩ hnx
   dsimp only at ht hb1 hb2
   refine⟨fun q=>?_,fun q=>hk _ ⟨r,hr,hb1,?_⟩⟩
   ·have q:t<r.length:=bG.1 q
    obtain⟨x,hx⟩:=aX q
    have hlt:=hr.lt (List.mem_of_getElem? hx)
    have:=hr.len
    refine⟨x,hx,by rw[hRl];exact hlt.2,_,hb2 x.b hlt.2,by omega,hnx _ ⟨q,(List.length_set ..).trans hb1,fun i hi=>?_⟩ (by dsimp only;omega)⟩
    dsimp only
    rw[List.getElem?_set,lC hx]
    unfold jc
    rw[List.any_append]
    by_cases e:x.b=i
    ·subst e
     rw[if_pos rfl,if_pos (by omega)]
     simp
    ·rw[if_neg e,hb2 i hi]
     unfold jc
     simp[e]
   ·have q:r.length<=t:=bP.1 q
    rw[List.take_of_length_le q] at hb2
    exact hb2
  ·rw[hRl,List.getElem?_replicate,if_pos hi];rfl
 ·rintro⟨qs,bs⟩ ⟨r,hr,hb1,hb2⟩
  dsimp only at hb1 hb2
  refine aR (fun s=>s.2<=(ksF c l).length/\s.1=fT c l r s.2) (fun s=>(ksF c l).length-s.2) (fun s=>s=fT c l r (ksF c l).length) ?_ ⟨Nat.zero_le _,rfl⟩ (fun _ e=>e ▸ h r hr)
  rintro k ⟨out,i⟩ nx ⟨hi,ho⟩ hnx hk
  dsimp only at hi ho
  refine⟨fun q=>?_,fun q=>hk _ ?_⟩
  ·have q:i<(ksF c l).length:=hRl ▸ bG.1 q
   obtain⟨ky,x,t,_,hrow,_⟩:=zK q
   have hol:out.length<=i:=by rw[ho];exact ox c l r i
   have hone:gZ c l r i=if jc r i=true then [] else [x]:=by
    have e:(RN c l).getD i []=x::t:=by rw[List.getD,hrow];rfl
    unfold gZ
    rw[e];rfl
   refine eZ (fun s=>s=fT c l r (i+1)) (fun k2 hk2=>⟨_,hrow,by omega,_,hb2 i q,fun e=>⟨x,rfl,by rw[List.length_singleton];omega,hk2 _ ?_⟩,fun e=>hk2 _ ?_⟩) fun s hs=>⟨by omega,hnx _ ⟨q,hs⟩ (by dsimp only;omega)⟩
   ·have e:jc r i=false:=by simpa using e
    rw[iT,hone,e,ho];rfl
   ·have e:jc r i=true:=by simpa using e
    rw[iT,hone,e,ho]
    simp
  ·have q:(RN c l).length<=i:=bP.1 q
   obtain rfl:i=(ksF c l).length:=by omega
   exact ho
inductive Rch (r:List N2) (st:Nat->Prop):Nat->Prop
 |base {a:Nat}:st a->Rch r st a
 |step {a b:Nat}:Rch r st a->(⟨a,b⟩:N2)∈r->Rch r st b
def qU (r:List N2) (a:Nat):List Nat:=(r.filter fun x=>x.a==a).map N2.b
theorem rY {r:List N2}{a b:Nat}:b∈qU r a↔(⟨a,b⟩:N2)∈r:=by
 unfold qU
 rw[List.mem_map]
 constructor
 ·rintro⟨⟨a',b'⟩,m,rfl⟩
  obtain⟨m,e⟩:=List.mem_filter.1 m
  have e:a'=a:=by simpa using e
  rw[<- e]
  exact m
 ·intro m
  exact⟨⟨a,b⟩,List.mem_filter.2 ⟨m,by simp⟩,rfl⟩
theorem sS (r:List N2) (a:Nat):(qU r a).length<=r.length:=by
 unfold qU
 rw[List.length_map]
 exact List.length_filter_le _ _
theorem vq (r:List N2) (x:N2) (a:Nat):qU (r++[x]) a=qU r a++if x.a=a then [x.b] else []:=by
 unfold qU
 rw[List.filter_append,List.map_append]
 congr 1
 by_cases e:x.a=a
 ·simp[e]
 ·simp[e]
def cntT (bs:List Bool):Nat:=bs.count true
theorem yB (bs:List Bool):cntT bs<=bs.length:=List.count_le_length
theorem sc:∀ {bs:List Bool}{a:Nat},bs[a]?=some false->cntT (bs.set a true)=cntT bs+1
 |[],_,h=>by cases h
 |b::bs,0,h=>by
  rw[List.getElem?_cons_zero] at h
  cases h
  unfold cntT
  rw[List.set_cons_zero,List.count_cons,List.count_cons]
  simp
 |b::bs,a+1,h=>by
  rw[List.getElem?_cons_succ] at h
  have:=sc h
  unfold cntT at this ⊢
  rw[List.set_cons_succ,List.count_cons,List.count_cons,this]
  omega
theorem zk {bs:List Bool}{a:Nat}{v:Bool} (h:bs[a]?=some v):bs.getD a false=v:=by rw[List.getD,h];rfl
theorem qJ {bs:List Bool}{a b:Nat} (h:a<bs.length):(bs.set a true).getD b false=true↔b=a\/bs.getD b false=true:=by
 by_cases e:b=a
 ·subst e
  rw[List.getD,List.getElem?_set_self h]
  simp
 ·rw[List.getD,List.getElem?_set_ne (fun q=>e q.symm)]
  simp[e]
structure ExpI (r:List N2) (n:Nat) (st:Nat->Prop) (M:Nat) (bs:List Bool) (todo:List Nat):Prop where
 len:bs.length=n
 snd:∀ a,bs.getD a false=true->Rch r st a
 tod:∀ a∈todo,a<n/\Rch r st a
 cls:∀ a b,bs.getD a false=true->(⟨a,b⟩:N2)∈r->bs.getD b false=true\/b∈todo
 st:∀ a,st a->bs.getD a false=true\/a∈todo
 msr:(n-cntT bs)*257+todo.length<=M
theorem ExpI.done {r:List N2}{n M:Nat}{st:Nat->Prop}{bs:List Bool} (I:ExpI r n st M bs []) (a:Nat):bs.getD a false=true↔Rch r st a:=by
 refine⟨I.snd a,fun h=>?_⟩
 induction h with
 |base h=>exact (I.st _ h).resolve_right (fun m=>by cases m)
 |step _ m ih=>exact (I.cls _ _ ih m).resolve_right (fun m=>by cases m)
theorem Aq {a b:Nat}:ltI (Int.ofNat a) (Int.ofNat b)=decide (a<b):=by
 rw[cV]
 by_cases h:a<b
 ·rw[decide_eq_true h];exact decide_eq_true (Int.ofNat_lt.2 h)
 ·rw[decide_eq_false h];exact decide_eq_false (fun q=>h (Int.ofNat_lt.1 q))
def nU (c:Circ) (l:List Flt) (ds:List Nat) (a:Nat):Prop:=∃ i∈ds,(osN c l)[i]?=some a
theorem rC {c:Circ}{l:List Flt}{i:Nat} (h:i<l.length):∃ a,(osN c l)[i]?=some a/\a<(ksF c l).length:=by
 obtain⟨f,hf⟩:=aX h
 refine⟨clsOf c l f,by unfold osN;rw[List.getElem?_map,hf];rfl,?_⟩
 exact List.idxOf_lt_length_iff.2 (fu.2 ⟨f,List.mem_of_getElem? hf,rfl⟩)
def nm (c:Circ) (l:List Flt) (bs:List Bool) (i:Nat):List Nat:=(List.range i).filter fun m=>bs.getD ((osN c l).getD m 0) false
theorem tn {c:Circ} (C:Cir c) {l:List Flt} (hl:ListOk c l) {d:List Int}{K:List Nat×Nat->Prop}
  (hd:(∃ ds:List Nat,d=ds.map Int.ofNat/\(∀ i∈ds,i<l.length)/\ds.length<=65536/\∀ r bs,DomOk c (ksF c l) r->(∀ a,bs.getD a false=true↔Rch r (nU c l ds) a)->K (nm c l bs l.length,0))\/∃ bad,d=[bad]/\(bad<0\/Int.ofNat l.length<=bad)/\K ([],1)) :
  bm c l d K:=by
 have hlen:=hl.len
 have hks:=uq hl
 have hRl:=mg c l
 unfold bm
 refine jL C hl.len hl.check ⟨(fun q=>absurd rfl (eD.1 q)),fun _=>fF C hl.len hl.stuck fun ps cs P=>⟨by omega,by omega,?_⟩⟩
 refine eZ (fun s=>∃ r,DomOk c (ksF c l) r/\s.2.length=(ksF c l).length/\∀ a,a<(ksF c l).length->s.2[a]?=some (qU r a)) (fun k hk=>gE C hks P.edge P.cs fun qs r hr=>?_) ?_
 ·have hrl:=hr.len
  refine bg (fun s=>s.2<=r.length/\s.1.length=(ksF c l).length/\∀ a,a<(ksF c l).length->s.1[a]?=some (qU (r.take s.2) a)) (fun s=>r.length-s.2) ?_ ⟨Nat.zero_le _,by rw[List.length_replicate];exact hRl,fun i hi=>?_⟩
  ·rintro⟨fs,t⟩ nx ⟨ht,hb1,hb2⟩ hnx
   dsimp only at ht hb1 hb2
   refine⟨fun q=>?_,fun q=>hk _ ⟨r,hr,hb1,?_⟩⟩
   ·have q:t<r.length:=bG.1 q
    obtain⟨x,hx⟩:=aX q
    have hlt:=hr.lt (List.mem_of_getElem? hx)
    have hfl:=sS (r.take t) x.a
    rw[List.length_take] at hfl
    refine⟨x,hx,by rw[hRl];exact hlt.1,_,hb2 x.a hlt.1,by rw[List.length_singleton];omega,by rw[hRl];exact hlt.1,by omega,hnx _ ⟨q,(List.length_set ..).trans hb1,fun a ha=>?_⟩ (by dsimp only;omega)⟩
    dsimp only
    rw[List.getElem?_set,lC hx,vq]
    by_cases e:x.a=a
    ·subst e
     rw[if_pos rfl,if_pos (by omega),if_pos rfl]
    ·rw[if_neg e,hb2 a ha,if_neg e,List.append_nil]
   ·have q:r.length<=t:=bP.1 q
    rw[List.take_of_length_le q] at hb2
    exact hb2
  ·rw[hRl,List.getElem?_replicate,if_pos hi];rfl
 ·rintro⟨qs,fs⟩ ⟨r,hr,hf1,hf2⟩
  have hrl:=hr.len
  dsimp only at hf1 hf2
  refine⟨by omega,by omega,?_⟩
  rcases hd with⟨ds,rfl,hd,hdl,h⟩|⟨bad,rfl,hb,h⟩
  case inr =>
   refine (show aM _ _ from bg (fun s=>s=([],0)) (fun _=>0) ?_ rfl)
   rintro _ nx rfl _
   refine⟨fun _=>⟨bad,rfl,?_⟩,fun q=>absurd (bP.1 q) (by simp)⟩
   refine jA (a:=true) (fun G=>⟨fun _=>G,fun e=>?_⟩) ⟨fun _=>h,fun e=>(by cases e)⟩
   have e:ltI bad (Int.ofNat l.length)=false:=by
    have e0:=uJ.1 e
    have:(Int.ofNat 0)=0:=rfl
    refine uJ.2 ?_
    rcases hb with hb|hb
    ·omega
    ·exact hb
   rw[e];exact G
  refine aR (fun s=>s.2<=ds.length/\s.1.length=s.2/\∀ a,a∈s.1↔nU c l (ds.take s.2) a) (fun s=>ds.length-s.2) (fun s=>s.length=ds.length/\∀ a,a∈s↔nU c l ds a) ?_ ⟨Nat.zero_le _,rfl,fun a=>⟨fun m=>(by cases m),fun ⟨_,m,_⟩=>by cases m⟩⟩ ?_
  ·rintro k ⟨td,i⟩ nx ⟨hi,ht1,ht2⟩ hnx hk
   dsimp only at hi ht1 ht2
   have hml:(ds.map Int.ofNat).length=ds.length:=List.length_map ..
   refine⟨fun q=>?_,fun q=>hk _ ?_⟩
   ·have q:i<ds.length:=hml ▸ bG.1 q
    obtain⟨d,hd1⟩:=aX q
    have hdl2:=hd d (List.mem_of_getElem? hd1)
    obtain⟨a,ha1,ha2⟩:=rC (c:=c) hdl2
    refine⟨Int.ofNat d,by rw[List.getElem?_map,hd1];rfl,?_⟩
    refine jA (a:=false) (fun G=>⟨fun e=>?_,fun _=>?_⟩) ⟨(fun e=>by cases e),fun _=>⟨d,rfl,a,ha1,by rw[List.length_singleton];omega,by omega,hnx _ ⟨q,by dsimp only;rw[List.length_append,ht1];rfl,fun b=>?_⟩ (by dsimp only;omega)⟩⟩
    ·rw[Aq,decide_eq_true_eq] at e;omega
    ·rw[Aq,decide_eq_true hdl2];exact G
    ·dsimp only
     rw[aO,ht2,lC hd1]
     unfold nU
     constructor
     ·rintro (⟨j,m,e⟩|rfl)
      ·exact⟨j,List.mem_append_left _ m,e⟩
      ·exact⟨d,aO.2 (.inr rfl),ha1⟩
     ·rintro⟨j,m,e⟩
      rcases aO.1 m with m|rfl
      ·exact .inl ⟨j,m,e⟩
      ·rw[ha1] at e;cases e;exact .inr rfl
   ·have q:ds.length<=i:=hml ▸ bP.1 q
    rw[List.take_of_length_le q] at ht2
    exact⟨by omega,ht2⟩
  ·rintro td ⟨htl,htd⟩
   refine aR (fun s=>ExpI r (ksF c l).length (nU c l ds) ((ksF c l).length*257+ds.length) s.1 s.2) (fun s=>((ksF c l).length-cntT s.1)*257+s.2.length) (fun s=>s.length=(ksF c l).length/\∀ a,s.getD a false=true↔Rch r (nU c l ds) a) ?_ ?_ ?_
   ·rintro k ⟨bs,todo⟩ nx I hnx hk
    dsimp only at I
    refine⟨fun q=>?_,fun q=>hk _ ?_⟩
    ·have q:0<todo.length:=bG.1 q
     rcases List.eq_nil_or_concat todo with e|⟨p,a,e⟩
     ·rw[e] at q;cases q
     ·rw[List.concat_eq_append] at e
      subst e
      have hpl:(p++[a]).length-1=p.length:=by rw[List.length_append,List.length_singleton];omega
      have hlast:(p++[a])[(p++[a]).length-1]?=some a:=by rw[hpl];simp
      have htake:(p++[a]).take ((p++[a]).length-1)=p:=by rw[hpl];simp
      have hm:=I.msr
      obtain⟨han,har⟩:=I.tod a (aO.2 (.inr rfl))
      obtain⟨v,hv⟩:=aX (l:=bs) (i:=a) (by rw[I.len];exact han)
      have hfl:=sS r a
      rw[List.length_append,List.length_singleton] at hm
      have hbig:p.length<=65536*257+65536:=by
       have:(ksF c l).length*257<=65536*257:=Nat.mul_le_mul_right _ hks
       omega
      refine⟨q,by rw[List.length_append,List.length_singleton];omega,a,hlast,q,by rw[List.length_append,List.length_singleton];omega,Nat.sub_le _ _,by rw[hRl];exact han,v,hv,fun e=>?_,fun e=>?_⟩
      ·have e:v=false:=by simpa using e
       subst e
       have hc:=sc hv
       have hcl:=yB (bs.set a true)
       rw[List.length_set,I.len] at hcl
       rw[htake]
       have hmul:((ksF c l).length-cntT (bs.set a true))*257+257=((ksF c l).length-cntT bs)*257:=by
        rw[hc] at hcl ⊢
        rw[<- Nat.succ_mul]
        congr 1
        omega
       refine⟨by rw[hRl];exact han,false,hv,by rw[hRl];exact han,_,hf2 a han,by omega,hnx _ ⟨(List.length_set ..).trans I.len,fun b hb=>?_,fun b hb=>?_,fun x b hx hb=>?_,fun b hb=>?_,?_⟩ ?_⟩
       ·rcases (qJ (by rw[I.len];exact han)).1 hb with rfl|hb
        ·exact har
        ·exact I.snd b hb
       ·rcases List.mem_append.1 hb with m|m
        ·exact I.tod b (aO.2 (.inl m))
        ·have m:=rY.1 m
         exact⟨(hr.lt m).2,.step har m⟩
       ·rcases (qJ (by rw[I.len];exact han)).1 hx with rfl|hx
        ·exact .inr (List.mem_append_right _ (rY.2 hb))
        ·rcases I.cls x b hx hb with q1|q1
         ·exact .inl ((qJ (by rw[I.len];exact han)).2 (.inr q1))
         ·rcases aO.1 q1 with m|rfl
          ·exact .inr (List.mem_append_left _ m)
          ·exact .inl ((qJ (by rw[I.len];exact han)).2 (.inl rfl))
       ·rcases I.st b hb with q1|q1
        ·exact .inl ((qJ (by rw[I.len];exact han)).2 (.inr q1))
        ·rcases aO.1 q1 with m|rfl
         ·exact .inr (List.mem_append_left _ m)
         ·exact .inl ((qJ (by rw[I.len];exact han)).2 (.inl rfl))
       ·dsimp only
        rw[List.length_append];omega
       ·dsimp only
        rw[List.length_append,List.length_append,List.length_singleton];omega
      ·have e:v=true:=by simpa using e
       subst e
       have hva:=zk hv
       rw[htake]
       refine hnx _ ⟨I.len,I.snd,fun b hb=>I.tod b (aO.2 (.inl hb)),fun x b hx hb=>?_,fun b hb=>?_,by dsimp only;omega⟩ (by dsimp only;rw[List.length_append,List.length_singleton];omega)
       ·rcases I.cls x b hx hb with q1|q1
        ·exact .inl q1
        ·rcases aO.1 q1 with m|rfl
         ·exact .inr m
         ·exact .inl hva
       ·rcases I.st b hb with q1|q1
        ·exact .inl q1
        ·rcases aO.1 q1 with m|rfl
         ·exact .inr m
         ·exact .inl hva
    ·have q:todo.length<=0:=bP.1 q
     have e:todo=[]:=List.length_eq_zero_iff.1 (by omega)
     subst e
     exact⟨I.len,I.done⟩
   ·have hz:∀ a,(List.replicate (ksF c l).length false).getD a false=false:=by
     intro a
     rw[List.getD,List.getElem?_replicate]
     split <;> rfl
    rw[hRl]
    refine⟨List.length_replicate ..,fun a ha=>?_,fun a ha=>?_,fun a b ha _=>?_,fun a ha=>.inr ((htd a).2 ha),?_⟩
    ·dsimp only at ha;rw[hz] at ha;cases ha
    ·have:=(htd a).1 ha
     obtain⟨i,m,e⟩:=this
     obtain⟨b,hb1,hb2⟩:=rC (c:=c) (hd i m)
     rw[hb1] at e;cases e
     exact⟨hb2,.base ⟨i,m,hb1⟩⟩
    ·dsimp only at ha;rw[hz] at ha;cases ha
    ·dsimp only
     rw[htl]
     have:((ksF c l).length-cntT (List.replicate (ksF c l).length false))*257<=(ksF c l).length*257:=Nat.mul_le_mul_right _ (Nat.sub_le _ _)
     omega
   ·rintro bs ⟨hbl,hbs⟩
    have hosl:(osN c l).length=l.length:=List.length_map ..
    refine aR (fun s=>s.2<=l.length/\s.1=nm c l bs s.2) (fun s=>l.length-s.2) (fun s=>s=nm c l bs l.length) ?_ ⟨Nat.zero_le _,rfl⟩ (fun _ e=>e ▸ h r bs hr hbs)
    rintro k ⟨out,i⟩ nx ⟨hi,ho⟩ hnx hk
    dsimp only at hi ho
    refine⟨fun q=>?_,fun q=>hk _ ?_⟩
    ·have q:i<l.length:=hosl ▸ bG.1 q
     obtain⟨a,ha1,ha2⟩:=rC (c:=c) q
     have hol:out.length<=i:=by
      rw[ho];unfold nm
      exact Nat.le_trans (List.length_filter_le _ _) (by rw[List.length_range];exact Nat.le_refl _)
     have hsucc:nm c l bs (i+1)=nm c l bs i++if bs.getD a false=true then [i] else []:=by
      unfold nm
      rw[Al]
      have:(osN c l).getD i 0=a:=by rw[List.getD,ha1];rfl
      rw[this]
     obtain⟨v,hv⟩:=aX (l:=bs) (i:=a) (by rw[hbl];exact ha2)
     have hva:=zk hv
     refine eZ (fun s=>s=nm c l bs (i+1)) (fun k2 hk2=>⟨a,ha1,by rw[hRl];exact ha2,v,hv,fun e=>⟨by rw[List.length_singleton];omega,hk2 _ ?_⟩,fun e=>hk2 _ ?_⟩) fun s hs=>⟨by omega,hnx _ ⟨q,hs⟩ (by dsimp only;omega)⟩
     ·rw[hsucc,hva,if_pos e,ho]
     ·rw[hsucc,hva,if_neg (by rw[e];decide),ho,List.append_nil]
    ·have q:l.length<=i:=hosl ▸ bP.1 q
     obtain rfl:i=l.length:=by omega
     exact ho
theorem vQ {c:Circ} (C:Cir c) {l:List Flt} (hl:ListOk c l) {ds:List Nat} (hd:∀ i∈ds,i<l.length) (hdl:ds.length<=65536) {K:List Nat×Nat->Prop}
  (h:∀ r bs,DomOk c (ksF c l) r->(∀ a,bs.getD a false=true↔Rch r (nU c l ds) a)->K (nm c l bs l.length,0)):bm c l (ds.map Int.ofNat) K :=
 tn C hl (.inl ⟨ds,rfl,hd,hdl,h⟩)
def wI (x:CData):CData:=⟨x.inp,x.dffs,x.data0,x.data1,x.bus,false,x.port0,x.port1,x.port2,x.port3,x.gates,x.outs⟩
theorem xU {x:CData} (h:CB x):CB (wI x):=⟨h.inp,h.dffs,h.data0,h.data1,h.port0,h.port1,h.port2,h.port3,h.gates,h.outs⟩
theorem vx {x:CData} (hx:CB x) {K:Circ->Prop} (h:K (dZ (wI x))):bJ x K:=uf (xU hx) h
theorem wv {x:CData} (hm:x.mem=false):Cir (dZ x):=by
 refine⟨vc hm,by rw[jP,hm];rfl,fun i y h=>?_⟩
 rcases vT hm h with⟨_,rfl⟩|⟨_,_,d,_,rfl⟩|⟨h1,_,g,hg⟩
 ·show (0:Nat)<=14;decide
 ·show (14:Nat)<=14;decide
 ·have hi:=ag h
  have hn:(dZ x).nodes.length=(bV x).length:=eS _
  have q:=sY x.bus g (ks:=((bV x).take i).map Node.kind) (by rw[List.length_map,List.length_take];omega)
  rw[<- hg] at q
  have:=q.kind
  omega
def bX (c:Circ):List Flt:=iQ 0 (lf c)
theorem nV {c:Circ} (C:Cir c):(lf c).length<=272:=by
 have:=iX C _ (Nat.le_refl _)
 have:=C.len
 unfold lf
 omega
theorem ow {c:Circ} (C:Cir c):(bX c).length<=544:=by
 have:=nV C
 unfold bX
 rw[tj];omega
theorem lK {c:Circ}{f:Flt}:f∈bX c ↔ ∃ s,VS c s/\f=fltS s:=by
 unfold bX iQ lf eQ
 rw[List.mem_flatMap]
 constructor
 ·rintro⟨x,hx,m⟩
  obtain⟨i,hi,hx⟩:=List.mem_flatMap.1 hx
  unfold pM at hx
  obtain⟨j,hj,rfl⟩:=List.mem_map.1 hx
  have hi:=List.mem_range.1 hi
  have hj:=List.mem_range.1 hj
  simp only[List.mem_cons,List.not_mem_nil,or_false] at m
  rcases m with rfl|rfl
  ·exact⟨⟨i,j,0⟩,⟨hi,by dsimp only;omega,by dsimp only;omega⟩,rfl⟩
  ·exact⟨⟨i,j,1⟩,⟨hi,by dsimp only;omega,by dsimp only;omega⟩,rfl⟩
 ·rintro⟨⟨n,p,v⟩,V,rfl⟩
  have h1:=V.node
  have h2:=V.pin
  have h3:=V.v
  dsimp only at h1 h2 h3
  refine⟨⟨n,Int.ofNat p-Int.ofNat 1⟩,List.mem_flatMap.2 ⟨n,List.mem_range.2 h1,?_⟩,?_⟩
  ·unfold pM
   exact List.mem_map.2 ⟨p,List.mem_range.2 (by omega),rfl⟩
  ·have:v=0\/v=1:=by omega
   simp only[List.mem_cons,List.not_mem_nil,or_false]
   rcases this with rfl|rfl
   ·exact .inl rfl
   ·exact .inr rfl
theorem uT {c:Circ} (C:Cir c):ListOk c (bX c):=by
 refine⟨Nat.le_trans (ow C) (by decide),fun f m _=>?_,fun f m K h=>?_⟩
 ·obtain⟨s,V,rfl⟩:=lK.1 m
  exact xX V
 ·obtain⟨s,V,rfl⟩:=lK.1 m
  exact vY C (xX V) h
theorem uK {c:Circ} (C:Cir c) {K:List Flt×Nat->Prop} (h:K (bX c,0)):eP c 0 K:=by
 have:=nV C
 exact⟨lf c,sW C rfl,by decide,by omega,h⟩
theorem wM (x:CData):0<(dZ x).nodes.length:=by
 have hn:(dZ x).nodes.length=(bV x).length:=eS _
 rw[hn];exact xw _
theorem wB {x:CData} (hx:CB x) {K:Circ×List Flt->Prop} (h:∀ c,Cir c->0<c.nodes.length->K (c,bX c)):bL x K:=by
 have C:Cir (dZ (wI x)):=wv rfl
 unfold bL
 exact vx hx (uK C (h _ C (wM _)))
theorem ud {c:Circ}{l:List Flt}{i:Nat}{row:List Nat} (h:(RN c l)[i]?=some row):∃ k,(ksF c l)[i]?=some k/\row=iD c l k:=by
 unfold RN at h
 rw[List.getElem?_map] at h
 obtain⟨k,hk,e⟩:=Option.map_eq_some_iff.1 h
 exact⟨k,hk,e.symm⟩
theorem yM {c:Circ}{l:List Flt}{i:Nat}{row:List Nat} (h:(RN c l)[i]?=some row) {m:Nat} (hm:m∈row):∃ f,l[m]?=some f/\clsOf c l f=i:=by
 obtain⟨k,hk,rfl⟩:=ud h
 obtain⟨f,hf,e⟩:=lA.1 hm
 refine⟨f,hf,?_⟩
 unfold clsOf
 rw[e]
 exact xm (qo c l) hk
theorem yI {a b:List Nat} (ha:a.length<2 ^ 60) {K:Bool->Prop} (h:K (decide (a=b))):aw a b K:=by
 unfold aw
 by_cases e:a.length=b.length
 ·refine jA (a:=false) (fun G=>⟨fun q=>absurd e (eD.1 q),fun _=>?_⟩) ⟨(fun q=>by cases q),fun _=>?_⟩
  ·have:neN a.length a.length=false:=tz.2 rfl
   rw[this];exact G
  ·refine aR (fun i=>i<=a.length/\a.take i=b.take i) (fun i=>a.length-i) (fun _=>a=b) ?_ ⟨Nat.zero_le _,rfl⟩ (fun _ q=>?_)
   ·rintro k i nx ⟨hi,hp⟩ hnx hk
    refine⟨fun q=>?_,fun q=>hk _ ?_⟩
    ·have q:i<a.length:=bG.1 q
     obtain⟨x,hx⟩:=aX q
     obtain⟨y,hy⟩:=aX (l:=b) (i:=i) (by omega)
     refine⟨x,hx,y,hy,fun q2=>?_,fun q2=>⟨by omega,hnx _ ⟨q,?_⟩ (by omega)⟩⟩
     ·have:a≠b:=by
       rintro rfl
       rw[hx] at hy;cases hy
       exact eD.1 q2 rfl
      rw[decide_eq_false this] at h;exact h
     ·rw[lC hx,lC hy,hp,tz.1 q2]
    ·have q:a.length<=i:=bP.1 q
     rw[List.take_of_length_le q,List.take_of_length_le (by omega)] at hp
     exact hp
   ·rw[decide_eq_true q] at h;exact h
 ·have:a≠b:=by rintro rfl;exact e rfl
  rw[decide_eq_false this] at h
  exact jA (a:=true) (fun G=>⟨fun _=>G,fun q=>absurd (tz.1 q) e⟩) ⟨fun _=>h,fun q=>by cases q⟩
theorem uw:RN bI (bX bI)=[[0,2,4,6,8],[1,7],[3,9],[5]]:=by decide +kernel
theorem yR:(ksF bI (bX bI)).length=4:=by decide +kernel
theorem xn:domRaw bI (ksF bI (bX bI)) 3=[⟨1,3⟩,⟨2,3⟩]:=by decide +kernel
theorem uB:osN bI (bX bI)=[0,1,0,2,0,3,0,1,0,2]:=by decide +kernel
theorem pd {r:List N2} (h:DomOk bI (ksF bI (bX bI)) r):r=[⟨1,3⟩,⟨2,3⟩]:=by
 refine pP h.sorted ?_ fun x=>?_
 ·refine List.Pairwise.cons (fun y m=>?_) (List.pairwise_singleton _ _)
  rw[List.mem_singleton] at m
  subst m
  exact .inl (by decide)
 ·rw[h.mem]
  show x∈domRaw bI (ksF bI (bX bI)) 3↔_
  rw[xn]
theorem vy:fT bI (bX bI) [⟨1,3⟩,⟨2,3⟩] 4=[0,1,3]:=by
 unfold fT gZ
 rw[uw]
 decide +kernel
theorem wx {bs:List Bool} (h:∀ a,bs.getD a false=true↔Rch [⟨1,3⟩,⟨2,3⟩] (nU bI (bX bI) [7]) a):nm bI (bX bI) bs 10=[1,5,7]:=by
 have hst:∀ a,nU bI (bX bI) [7] a↔a=1:=by
  intro a
  unfold nU
  rw[uB]
  constructor
  ·rintro⟨i,m,e⟩
   rw[List.mem_singleton] at m
   subst m
   cases e;rfl
  ·rintro rfl
   exact⟨7,List.mem_singleton.2 rfl,rfl⟩
 have hR:∀ a,Rch [⟨1,3⟩,⟨2,3⟩] (nU bI (bX bI) [7]) a->a=1\/a=3:=by
  intro a ha
  induction ha with
  |base q=>exact .inl ((hst _).1 q)
  |step _ m _ =>
   simp only[List.mem_cons,List.not_mem_nil,or_false,N2.mk.injEq] at m
   omega
 have b0:bs.getD 0 false=false:=by
  rw[Bool.eq_false_iff];intro q
  have:=hR _ ((h 0).1 q);omega
 have b2:bs.getD 2 false=false:=by
  rw[Bool.eq_false_iff];intro q
  have:=hR _ ((h 2).1 q);omega
 have b1:bs.getD 1 false=true:=(h 1).2 (.base ((hst 1).2 rfl))
 have b3:bs.getD 3 false=true:=(h 3).2 (.step (.base ((hst 1).2 rfl)) (by simp))
 unfold nm
 rw[uB]
 have e:(List.range 10).filter (fun m=>bs.getD (([0,1,0,2,0,3,0,1,0,2]:List Nat).getD m 0) false)=(List.range 10).filter (fun m=>([false,true,false,true]:List Bool).getD (([0,1,0,2,0,3,0,1,0,2]:List Nat).getD m 0) false):=by
  refine List.filter_congr fun m hm=>?_
  have hm:=List.mem_range.1 hm
  have key:∀ q,q<4->bs.getD q false=([false,true,false,true]:List Bool).getD q false:=by
   intro q hq
   have:q=0\/q=1\/q=2\/q=3:=by omega
   rcases this with rfl|rfl|rfl|rfl
   ·exact b0
   ·exact b1
   ·exact b2
   ·exact b3
  refine key _ ?_
  have hall:∀ m,m<10->([0,1,0,2,0,3,0,1,0,2]:List Nat).getD m 0<4:=by decide
  exact hall m hm
 rw[e]
 decide
theorem tH {K:Bool->Prop} (h:K true):bn K:=by
 have C:=xa
 have hl:=uT C
 have h0:neN 0 0=false:=tz.2 rfl
 unfold bn bU
 refine uK C (od C hl (kj C hl fun r hr=>yQ C hl fun r2 hr2=>?_))
 have e1:=pd hr
 have e2:=pd hr2
 subst e1 e2
 refine vQ (ds:=[7]) C hl (fun i m=>?_) (by decide) fun r3 bs hr3 hbs=>?_
 ·rw[List.mem_singleton] at m
  subst m
  decide
 have e3:=pd hr3
 subst e3
 have hx:=wx hbs
 have hc:fT bI (bX bI) [⟨1,3⟩,⟨2,3⟩] (ksF bI (bX bI)).length=[0,1,3]:=by rw[yR];exact vy
 have hx:nm bI (bX bI) bs (bX bI).length=[1,5,7]:=hx
 dsimp only
 rw[hc,hx,uw]
 have ik:∀ (a b:List Nat) (K:Bool->Prop),a=b->a.length<2 ^ 60->K true->aw a b K:=fun a b K e q k=>yI q (by rw[decide_eq_true e];exact k)
 refine jA (a:=false) (fun G=>⟨fun q=>absurd rfl (eD.1 q),fun _=>⟨fun q=>absurd rfl (eD.1 q),fun _=>⟨fun q=>absurd rfl (eD.1 q),fun _=>⟨fun q=>absurd rfl (eD.1 q),fun _=>⟨fun q=>absurd rfl (eD.1 q),fun _=>G⟩⟩⟩⟩⟩) ⟨(fun q=>by cases q),fun _=>?_⟩
 refine⟨_,rfl,ik _ _ _ rfl (by decide) ⟨fun _=>?_,fun q=>(by cases q)⟩⟩
 refine⟨_,rfl,ik _ _ _ rfl (by decide) ⟨fun _=>?_,fun q=>(by cases q)⟩⟩
 refine⟨_,rfl,ik _ _ _ rfl (by decide) ⟨fun _=>?_,fun q=>(by cases q)⟩⟩
 refine⟨_,rfl,ik _ _ _ rfl (by decide) ⟨fun _=>?_,fun q=>(by cases q)⟩⟩
 refine⟨_,rfl,fun _=>⟨_,rfl,fun _=>?_,fun q=>absurd q (by decide)⟩,fun q=>absurd q (by decide)⟩
 refine ik _ _ _ rfl (by decide) ⟨fun _=>?_,fun q=>(by cases q)⟩
 exact ik _ _ _ rfl (by decide) h
theorem Ba (a:Nat):ltN a 0=false:=bP.2 (Nat.zero_le _)
theorem xz {c:Circ}{l:List Flt}{i:Nat}{row:List Nat} (h:(RN c l)[i]?=some row) {k m:Nat} (hm:row[k]?=some m):∃ f,l[m]?=some f/\f∈l/\clsOf c l f=i:=by
 obtain⟨f,h1,h2⟩:=yM h (List.mem_of_getElem? hm)
 exact⟨f,h1,List.mem_of_getElem? h1,h2⟩
theorem yP {c:Circ}{l:List Flt}{i:Nat}{row:List Nat} (h:(RN c l)[i]?=some row) {f:Flt} (hf:f∈l) (he:clsOf c l f=i):∃ k m:Nat,row[k]?=some m/\l[m]?=some f:=by
 obtain⟨k,hk,rfl⟩:=ud h
 obtain⟨m,hm⟩:=List.mem_iff_getElem?.1 hf
 have g:=qL (fu.2 ⟨f,hf,rfl⟩:dq c f∈ksF c l)
 unfold clsOf at he
 rw[he,hk] at g
 have:m∈iD c l k:=lA.2 ⟨f,hm,(Option.some.inj g).symm⟩
 obtain⟨q,hq⟩:=List.mem_iff_getElem?.1 this
 exact⟨q,m,hq,hm⟩
def mz {α:Type} (ks:List α):List (α×Bool):=ks.map fun k=>(k,true)
theorem wN {α:Type} [DecidableEq α] (ks:List α) (x:α):bc (mz ks) x=if x∈ks then some true else none:=by
 induction ks with
 |nil=>rfl
 |cons a ks ih =>
  show (if x=a then some true else bc (mz ks) x)=_
  by_cases e:x=a
  ·rw[if_pos e,if_pos (List.mem_cons.2 (.inl e))]
  ·rw[if_neg e,ih]
   by_cases m:x∈ks
   ·rw[if_pos m,if_pos (List.mem_cons.2 (.inr m))]
   ·rw[if_neg m,if_neg (fun q=>(List.mem_cons.1 q).elim e m)]
theorem xu {α:Type} [DecidableEq α] (ks:List α) (x:α):eB (mz ks) x true=mz (if x∈ks then ks else ks++[x]):=by
 induction ks with
 |nil=>rfl
 |cons a ks ih =>
  show (if x=a then (x,true)::mz ks else (a,true)::eB (mz ks) x true)=_
  by_cases e:x=a
  ·rw[if_pos e,if_pos (List.mem_cons.2 (.inl e)),e];rfl
  ·rw[if_neg e,ih]
   by_cases m:x∈ks
   ·rw[if_pos m,if_pos (List.mem_cons.2 (.inr m))];rfl
   ·rw[if_neg m,if_neg (fun q=>(List.mem_cons.1 q).elim e m)];rfl
def yi (ks:List N2) (x:N2):List N2:=if x∈ks then ks else ks++[x]
theorem wX {ks:List N2}{x y:N2}:y∈yi ks x↔y∈ks\/y=x:=by
 unfold yi
 split
 ·rename_i h
  constructor
  ·exact .inl
  ·rintro (m|rfl)
   ·exact m
   ·exact h
 ·exact aO
theorem tP {ks:List N2} (h:ks.Nodup) (x:N2):(yi ks x).Nodup:=by
 unfold yi
 split
 ·exact h
 ·rename_i n
  refine List.nodup_append.2 ⟨h,by simp,?_⟩
  intro a ha b hb
  rw[List.mem_singleton] at hb
  subst hb
  rintro rfl
  exact n ha
theorem rP {r:List N2} (h:r.Pairwise n2Lt):r.Nodup:=h.imp fun {a b} q e=>by
 subst e
 unfold n2Lt at q
 omega
theorem tu {a b:List N2} (ha:a.Nodup) (hb:b.Nodup) (h:∀ x,x∈a↔x∈b):a.length=b.length :=
 Nat.le_antisymm (ha.length_le_of_subset fun _ m=>(h _).1 m) (hb.length_le_of_subset fun _ m=>(h _).2 m)
def nZ (c:Circ) (s:Si):Nat:=(ksF c (bX c)).idxOf (fltS (clsN c s))
theorem yb {c:Circ} (s:Si):clsOf c (bX c) (fltS s)=nZ c s:=by
 unfold clsOf nZ
 rw[oe]
theorem si {c:Circ}{s:Si} (h:VS c s):fltS (clsN c s)∈ksF c (bX c):=fu.2 ⟨fltS s,lK.2 ⟨s,h,rfl⟩,oe c s⟩
def prW (c:Circ) (i:Nat) (x:N2):Prop:=∃ n r j,n<i/\dX (kd c n)=some r/\j<(insOf c n).length/\x=⟨nZ c (ep n j r),nZ c (eE n r)⟩
theorem yy {c:Circ}{x:N2}:prW c c.nodes.length x↔x∈domRaw c (ksF c (bX c)) c.nodes.length:=by
 rw[rO]
 constructor
 ·rintro⟨n,r,j,hn,hr,hj,e⟩
  exact⟨n,r,j,hn,hr,hj,si (oS hn hj),si (oA hn),e⟩
 ·rintro⟨n,r,j,hn,hr,hj,_,_,e⟩
  exact⟨n,r,j,hn,hr,hj,e⟩
theorem Ai {c:Circ} (C:Cir c):(RN c (bX c)).length<=544:=by
 rw[mg]
 exact Nat.le_trans (nE _ _) (ow C)
theorem xF {c:Circ} (C:Cir c) {i:Nat}{row:List Nat} (h:(RN c (bX c))[i]?=some row):row.length<=544:=by
 obtain⟨k,_,rfl⟩:=ud h
 exact Nat.le_trans (sJ _ _ _) (ow C)
theorem lT {x:CData} (hx:CB x) {K:Bool->Prop} (h:K true):aY x K:=by
 unfold aY
 refine wB hx fun c C hpos=>?_
 have hl:=uT C
 have hlen:=C.len
 refine od C hl (kj C hl fun r hr=>?_)
 dsimp only
 have hRl:=Ai C
 have hRk:=mg c (bX c)
 have hrl:=hr.len
 have n0:neN 0 0=false:=tz.2 rfl
 refine jA (a:=false) (fun G=>⟨fun q=>absurd rfl (eD.1 q),fun _=>?_⟩) ⟨(fun q=>by cases q),fun _=>?_⟩
 ·rw[n0];exact G
 refine aR (fun s=>s.2<=(RN c (bX c)).length/\∀ f∈bX c,clsOf c (bX c) f<s.2->bc s.1 f=some (clsOf c (bX c) f)) (fun s=>(RN c (bX c)).length-s.2) (fun m:List (Flt×Nat)=>∀ f∈bX c,bc m f=some (clsOf c (bX c) f)) ?_ ⟨Nat.zero_le _,fun f _ q=>absurd q (Nat.not_lt_zero _)⟩ ?_
 ·rintro k ⟨m,i⟩ nx ⟨hi,hm⟩ hnx hk
  dsimp only at hi hm
  refine⟨fun q=>?_,fun q=>hk _ ?_⟩
  ·have q:i<(RN c (bX c)).length:=bG.1 q
   obtain⟨row,hrow⟩:=aX q
   have hrwl:=xF C hrow
   refine eZ (fun m:List (Flt×Nat)=>∀ f∈bX c,clsOf c (bX c) f<i+1->bc m f=some (clsOf c (bX c) f)) (fun k2 hk2=>?_) fun m hm=>⟨by omega,hnx _ ⟨q,hm⟩ (by dsimp only;omega)⟩
   refine bg (fun s=>s.2<=row.length/\(∀ f∈bX c,clsOf c (bX c) f<i->bc s.1 f=some (clsOf c (bX c) f))/\∀ (u j:Nat) (f:Flt),u<s.2->row[u]?=some j->(bX c)[j]?=some f->bc s.1 f=some i) (fun s=>row.length-s.2) ?_ ⟨Nat.zero_le _,hm,fun u j f q=>absurd q (Nat.not_lt_zero _)⟩
   rintro⟨m,t⟩ nx2 ⟨ht,hm1,hm2⟩ hnx2
   dsimp only at ht hm1 hm2
   refine⟨row,hrow,fun q2=>?_,fun q2=>hk2 _ ?_⟩
   ·have q2:t<row.length:=bG.1 q2
    obtain⟨j,hj⟩:=aX q2
    obtain⟨f,hf,hfm,hfc⟩:=xz hrow hj
    have hjl:=ag hf
    refine jA (a:=false) (fun G=>⟨row,hrow,j,hj,fun q=>?_,fun _=>⟨row,hrow,j,hj,?_⟩⟩) ⟨(fun q=>by cases q),fun _=>⟨row,hrow,j,hj,f,hf,by omega,hnx2 _ ⟨q2,fun g hg hgc=>?_,fun u j2 g hu hj2 hg=>?_⟩ (by dsimp only;omega)⟩⟩
    ·rw[Ba] at q;cases q
    ·have:(!ltN j (bX c).length)=false:=by rw[Bool.not_eq_false'];exact bG.2 hjl
     rw[this];exact G
    ·dsimp only
     rw[lD,if_neg]
     ·exact hm1 g hg hgc
     ·rintro rfl
      omega
    ·dsimp only
     rw[lD]
     by_cases e:g=f
     ·rw[if_pos e]
     ·rw[if_neg e]
      refine hm2 u j2 g ?_ hj2 hg
      by_cases e2:u=t
      ·subst e2
       rw[hj] at hj2;cases hj2
       rw[hf] at hg;cases hg
       exact absurd rfl e
      ·dsimp only at hu;omega
   ·have q2:row.length<=t:=bP.1 q2
    intro f hf hfc
    by_cases e:clsOf c (bX c) f=i
    ·obtain⟨u,j,hu,hj⟩:=yP hrow hf e
     rw[e]
     exact hm2 u j f (by have:=ag hu;omega) hu hj
    ·exact hm1 f hf (by omega)
  ·have q:(RN c (bX c)).length<=i:=bP.1 q
   intro f hf
   refine hm f hf ?_
   have:clsOf c (bX c) f<(ksF c (bX c)).length:=List.idxOf_lt_length_iff.2 (fu.2 ⟨f,hf,rfl⟩)
   omega
 intro of hof
 have hofs:∀ s,VS c s->(bc of (fltS s)).getD 0=nZ c s:=by
  intro s vs
  rw[hof _ (lK.2 ⟨s,vs,rfl⟩),yb];rfl
 refine aR (fun s=>s.2<=c.nodes.length/\∃ ks:List N2,s.1=mz ks/\ks.Nodup/\∀ y,y∈ks↔prW c s.2 y) (fun s=>c.nodes.length-s.2) (fun m:List (N2×Bool)=>∃ ks:List N2,m=mz ks/\ks.Nodup/\∀ y,y∈ks↔prW c c.nodes.length y) ?_ ⟨Nat.zero_le _,[],rfl,List.nodup_nil,fun y=>⟨fun m=>(by cases m),fun ⟨_,_,_,q,_⟩=>absurd q (Nat.not_lt_zero _)⟩⟩ ?_
 ·rintro k ⟨m,n⟩ nx ⟨hn,ks,hm,hnd,hks⟩ hnx hk
  dsimp only at hn hm hks
  subst hm
  refine⟨fun q=>?_,fun q=>hk _ ?_⟩
  ·have q:n<c.nodes.length:=bG.1 q
   obtain⟨y,hy⟩:=aX q
   have hfew:=(C.good.node n y hy).few
   refine eZ (fun m:List (N2×Bool)=>∃ ks:List N2,m=mz ks/\ks.Nodup/\∀ y,y∈ks↔prW c (n+1) y) (fun k2 hk2=>?_) fun m hm=>⟨by omega,hnx _ ⟨q,hm⟩ (by dsimp only;omega)⟩
   have stay:dX y.kind=none->k2 (mz ks):=by
    intro hs
    refine hk2 _ ⟨ks,rfl,hnd,fun z=>(hks z).trans ⟨?_,?_⟩⟩
    ·rintro⟨n',r',j,h1,h2⟩
     exact⟨n',r',j,by omega,h2⟩
    ·rintro⟨n',r',j,h1,h2,h3⟩
     by_cases e:n'=n
     ·subst e
      rw[kl hy,hs] at h2;cases h2
     ·exact⟨n',r',j,by omega,h2,h3⟩
   refine eZ (fun p=>∃ ru,dX y.kind=some ru/\p=(1-ru.pin,1-ru.out)) (fun k3 hk3=>⟨y,hy,fun q5=>?_,fun q5=>⟨fun q6=>?_,fun q6=>⟨fun q7=>?_,fun q7=>⟨fun q8=>?_,fun q8=>?_⟩⟩⟩⟩) ?_
   ·exact hk3 _ ⟨⟨0,0⟩,by rw[fP.1 q5];rfl,rfl⟩
   ·exact hk3 _ ⟨⟨0,1⟩,by rw[fP.1 q6];rfl,rfl⟩
   ·exact hk3 _ ⟨⟨1,1⟩,by rw[fP.1 q7];rfl,rfl⟩
   ·exact hk3 _ ⟨⟨1,0⟩,by rw[fP.1 q8];rfl,rfl⟩
   ·refine stay ?_
    unfold dX
    rw[if_neg (iF.1 q5),if_neg (iF.1 q6),if_neg (iF.1 q7),if_neg (iF.1 q8)]
   ·rintro _ ⟨ru,hru,rfl⟩
    dsimp only
    have hkd:dX (kd c n)=some ru:=by rw[kl hy];exact hru
    refine bg (fun s=>s.2<=y.ins.length/\∃ ks:List N2,s.1=mz ks/\ks.Nodup/\∀ z,z∈ks↔prW c n z\/∃ j,j<s.2/\z=⟨nZ c (ep n j ru),nZ c (eE n ru)⟩) (fun s=>y.ins.length-s.2) ?_ ⟨Nat.zero_le _,ks,rfl,hnd,fun z=>(hks z).trans ⟨.inl,fun q=>q.elim id fun ⟨_,q,_⟩=>absurd q (Nat.not_lt_zero _)⟩⟩
    rintro⟨m,t⟩ nx2 ⟨ht,ks2,hm,hnd2,hks2⟩ hnx2
    dsimp only at ht hm hks2
    subst hm
    refine⟨y,hy,fun q2=>?_,fun q2=>hk2 _ ?_⟩
    ·have q2:t<y.ins.length:=bG.1 q2
     have e1:(⟨0,⟨n,Int.ofNat t⟩,1-ru.pin,0⟩:Flt)=fltS (ep n t ru):=(zc n t _).symm
     have e2:(⟨0,⟨n,Int.negSucc 0⟩,1-ru.out,0⟩:Flt)=fltS (eE n ru):=rfl
     rw[e1,e2,hofs _ (oS q (by rw[bS hy];exact q2)),hofs _ (oA q),xu]
     refine⟨by omega,hnx2 _ ⟨q2,yi ks2 _,rfl,tP hnd2 _,fun z=>?_⟩ (by dsimp only;omega)⟩
     dsimp only
     rw[wX,hks2]
     constructor
     ·rintro ((q3|⟨j,q3,q4⟩) | rfl)
      ·exact .inl q3
      ·exact .inr ⟨j,by omega,q4⟩
      ·exact .inr ⟨t,by omega,rfl⟩
     ·rintro (q3|⟨j,q3,q4⟩)
      ·exact .inl (.inl q3)
      ·by_cases e:j=t
       ·subst e;exact .inr q4
       ·exact .inl (.inr ⟨j,by omega,q4⟩)
    ·have q2:y.ins.length<=t:=bP.1 q2
     obtain rfl:t=y.ins.length:=by omega
     refine⟨ks2,rfl,hnd2,fun z=>(hks2 z).trans ⟨?_,?_⟩⟩
     ·rintro (⟨n',r',j,h1,h2⟩|⟨j,h1,rfl⟩)
      ·exact⟨n',r',j,by omega,h2⟩
      ·exact⟨n,ru,j,by omega,hkd,by rw[bS hy];exact h1,rfl⟩
     ·rintro⟨n',r',j,h1,h2,h3,rfl⟩
      by_cases e:n'=n
      ·subst e
       rw[hkd] at h2;cases h2
       rw[bS hy] at h3
       exact .inr ⟨j,h3,rfl⟩
      ·exact .inl ⟨n',r',j,by omega,h2,h3,rfl⟩
  ·have q:c.nodes.length<=n:=bP.1 q
   obtain rfl:n=c.nodes.length:=by omega
   exact⟨ks,rfl,hnd,hks⟩
 rintro _ ⟨ks,rfl,hnd,hks⟩
 have hiff:∀ y,y∈ks↔y∈r:=fun y=>(hks y).trans (yy.trans (hr.mem y).symm)
 have hlen2:(mz ks).length=r.length:=by
  unfold mz
  rw[List.length_map]
  exact tu hnd (rP hr.sorted) hiff
 refine⟨fun q=>absurd hlen2 (eD.1 q),fun _=>?_⟩
 refine dM (l:=r) ?_ ?_ (tH h)
 ·intro k i nx y hy hi hn
  refine⟨fun _=>⟨y,hy,fun q=>?_,fun _=>⟨by omega,hn⟩⟩,fun q=>by have:=bP.1 q;omega⟩
  rw[wN,if_pos ((hiff y).2 (List.mem_of_getElem? hy))] at q
  cases q
 ·intro k i nx hi hk
  refine⟨fun q=>?_,fun _=>hk⟩
  have:=bG.1 q;omega
structure RulOk (c:Circ) (r:List F2):Prop where
 mem:∀ z,z∈r ↔ ∃ s w,down c s=some w/\z=⟨fltS s,fltS w⟩
 len:r.length<=2000
def nuF (c:Circ) (f:Flt):Nat:=numN c (yz f)
structure Lab (c:Circ) (L:List Nat):Prop where
 len:L.length=npN c
 lab:∀ s,VS c s->∃ t,VS c t/\L[numN c s]?=some (numN c t)/\clsN c t=clsN c s/\numN c t<=numN c s
structure LabE (c:Circ) (L:List Nat):Prop where
 lab:Lab c L
 same:∀ s w,down c s=some w->L[numN c s]?=L[numN c w]?
inductive Dep (c:Circ):Nat->Nat->Prop
 |refl (a:Nat):Dep c a a
 |step {a m b:Nat} {x:Node}:c.nodes[a]?=some x->x.kind≠14->m∈x.ins->Dep c m b->Dep c a b
def mk1 (ds:List Bool) (b:Nat):Prop:=ds.getD b false=true
def cntB (l:List Bool):Nat:=l.countP id
structure ConeI (c:Circ) (a:Nat) (ds:List Bool) (todo:List Nat):Prop where
 len:ds.length=c.nodes.length
 dep:∀ b,mk1 ds b->Dep c a b
 mem:∀ t∈todo,mk1 ds t
 top:mk1 ds a
 cl:∀ z x,mk1 ds z->z ∉ todo->c.nodes[z]?=some x->x.kind≠14->∀ m∈x.ins,mk1 ds m
 sz:todo.length+2*(c.nodes.length-cntB ds)<=2*c.nodes.length+1
structure BrOk (c:Circ) (f:Flt):Prop where
 model:f.model=2\/f.model=3
 value:f.value<=1
 val3:f.model=3->f.value=0
 pin:f.line.pin=Int.negSucc 0
 node:f.line.node<c.nodes.length
 other:f.other<c.nodes.length
 ne:f.line.node≠f.other
 le:f.model=2->f.line.node<=f.other
 kind1:kd c f.line.node≠12
 kind2:kd c f.other≠12
 dep1:¬ Dep c f.line.node f.other
 dep2:¬ Dep c f.other f.line.node
structure LinOk (c:Circ) (f:Flt):Prop where
 model:f.model<=1
 stuck:StuckOk c ⟨0,f.line,f.value,f.other⟩
def F12 (c:Circ) (f:Flt):Prop:=LinOk c f\/BrOk c f
structure CntI (c:Circ) (l:List Flt) (ns os:List Nat) (D:Nat->Flt->Prop):Prop where
 nl:ns.length=l.length
 ol:os.length=l.length
 on:∀ m f,l[m]?=some f->D m f->ns[m]?=some 1/\os[m]?=some (clsOf c l f)
 off:∀ m f,l[m]?=some f->¬ D m f->ns[m]?=some 0
def ct:List (Sh×Bool):=[(shC,true)]
theorem kb (x:uY ct) (w:wfL ct x):FnV Tryd.prog NG vars 4 ⟨xC ct x⟩ (.bool true):=by
 obtain⟨c,u⟩:=x
 obtain⟨wc,_⟩:=w
 obtain⟨y,hy,e1⟩:=AK wc
 have e:xC ct (c,u)=[bl y]:=by
  show [elV (!true) (shC.ba c)]=_
  rw[e1]
 rw[e]
 exact FnV.nv (enc:=Value.bool) (r:=true) (PureV.flat rfl) fun h hB=>dH (K:=fun r=>r=true) (lT hy rfl) hB
end Go.Proofs.YtobphhjcadjfjaaDoor
