/-
  Y4, Y5, Carg, Carg7, Case, X3, Y7, Cir12, Y8: parts of the proof.
-/
import Derived.Test.YteceaohcjmbfbaaGreatDoorSe49
namespace Go.Proofs.YteceaohcjmbfbaaGreatDoor
open Go.Abs
set_option maxRecDepth 100000
inductive Dep (c:Circ):Nat->Nat->Prop
 |refl (a:Nat):Dep c a a
 |step {a m b:Nat} {x:Node}:c.nodes[a]?=some x->x.kind≠14->m∈x.ins->Dep c m b->Dep c a b
theorem Dep.trans {c:Circ}{a b d:Nat} (h:Dep c a b) (h2:Dep c b d):Dep c a d:=by
 induction h with
 |refl a=>exact h2
 |step hx hk hm _ ih=>exact .step hx hk hm (ih h2)
def mk1 (ds:List Bool) (b:Nat):Prop:=ds.getD b false=true
theorem pN {ds:List Bool}{a b:Nat} (ha:a<ds.length):mk1 (ds.set a true) b↔b=a\/mk1 ds b:=by
 unfold mk1
 rw[List.getD,List.getElem?_set]
 by_cases e:a=b
 ·subst e;rw[if_pos rfl,if_pos ha];simp
 ·rw[if_neg e]
  exact⟨.inr,fun q=>q.elim (fun e2=>absurd e2.symm e) id⟩
theorem nN {ds:List Bool}{b:Nat}{v:Bool} (h:ds[b]?=some v):mk1 ds b↔v=true:=by unfold mk1;rw[List.getD,h];rfl
theorem nE {c:Circ} (C:Cir c) {a m:Nat}{x:Node} (hx:c.nodes[a]?=some x) (hk:x.kind≠14) (hm:m∈x.ins):m<a:=by
 have g:=C.good.node a x hx
 have hk2:=C.kinds a x hx
 refine g.acyc ?_ (by omega) m hm
 refine Nat.pos_of_ne_zero fun e=>?_
 have:=g.arity
 rw[e] at this
 have h2:x.ins.length=0:=by
  obtain⟨_,h2⟩:=this
  have e2:hiZ 0=0:=by decide
  rw[e2] at h2
  simp only[Int.ofNat_eq_natCast] at h2
  omega
 rw[List.length_eq_zero_iff] at h2
 rw[h2] at hm
 cases hm
theorem sm {c:Circ} (C:Cir c):∀ (fu a:Nat) (ds:List Bool),a<fu->a<c.nodes.length->ds.length=c.nodes.length->(∀ z,z<=a->mk1 ds z->∀ b,Dep c z b->mk1 ds b) ->
  ∀ K:List Bool->Prop,(∀ es:List Bool,es.length=c.nodes.length->(∀ b,mk1 es b↔mk1 ds b\/Dep c a b)->K es)->cL fu c a ds c.nodes.length K
 |0,a,ds,h,_,_,_,_,_=>absurd h (Nat.not_lt_zero _)
 |fu+1,a,ds,hf,ha,hl,hc,K,h=>by
  obtain⟨v,hv⟩:=au (show a<ds.length by omega)
  obtain⟨x,hx⟩:=au ha
  unfold cL
  refine⟨ha,v,hv,fun e=>h ds hl fun b=>⟨.inl,fun q=>q.elim id fun q=>hc a (Nat.le_refl _) ((nN hv).2 e) b q⟩,fun e=>⟨ha,v,hv,x,hx,?_⟩⟩
  refine bn (fun s=>s.2<=x.ins.length/\s.1.length=c.nodes.length/\∀ b,mk1 s.1 b↔mk1 ds b\/b=a\/x.kind≠14/\∃ m∈x.ins.take s.2,Dep c m b) (fun s=>x.ins.length-s.2) ?_ ⟨Nat.zero_le _,by rw[List.length_set];exact hl,fun b=>?_⟩
  ·rintro⟨es,i⟩ nx ⟨hi,hel,hes⟩ hnx
   dsimp only at hi hel hes
   refine⟨fun q=>?_,fun q=>h es hel fun b=>?_⟩
   ·have q:i<x.ins.length:=aJ.1 q
    obtain⟨m,hm⟩:=au q
    have few:=(C.good.node a x hx).few
    have hmn:m<c.nodes.length:=(C.good.node a x hx).ins m (List.mem_of_getElem? hm)
    refine eK (fun es'=>es'.length=c.nodes.length/\∀ b,mk1 es' b↔mk1 ds b\/b=a\/x.kind≠14/\∃ m∈x.ins.take (i+1),Dep c m b) (fun k hk=>⟨m,hm,x,hx,fun e2=>?_,fun e2=>?_⟩) fun es' hes'=>⟨by omega,hnx _ ⟨q,hes'⟩ (by dsimp only;omega)⟩
    ·have hk14:x.kind≠14:=eL.1 e2
     have hma:=nE C hx hk14 (List.mem_of_getElem? hm)
     refine sm C fu m es (by omega) hmn hel (fun z hz hmk b hd=>?_) k fun es' h1 h2=>hk es' ⟨h1,fun b=>?_⟩
     ·rw[hes]
      rcases (hes z).1 hmk with q1|rfl|⟨_,w,hw,hd2⟩
      ·exact .inl (hc z (by omega) q1 b hd)
      ·omega
      ·exact .inr (.inr ⟨hk14,w,hw,hd2.trans hd⟩)
     ·rw[h2,hes,kl hm]
      constructor
      ·rintro ((q1|q1|⟨q1,w,hw,q2⟩) | q1)
       ·exact .inl q1
       ·exact .inr (.inl q1)
       ·exact .inr (.inr ⟨q1,w,bm.2 (.inl hw),q2⟩)
       ·exact .inr (.inr ⟨hk14,m,bm.2 (.inr rfl),q1⟩)
      ·rintro (q1|q1|⟨q1,w,hw,q2⟩)
       ·exact .inl (.inl q1)
       ·exact .inl (.inr (.inl q1))
       ·rcases bm.1 hw with hw|rfl
        ·exact .inl (.inr (.inr ⟨q1,w,hw,q2⟩))
        ·exact .inr q2
    ·have hk14:x.kind=14:=pv.1 e2
     refine hk es ⟨hel,fun b=>?_⟩
     rw[hes]
     simp only[hk14,ne_eq,not_true_eq_false,false_and]
   ·have q:x.ins.length<=i:=aU.1 q
    rw[hes,List.take_of_length_le q]
    constructor
    ·rintro (q1|rfl|⟨q1,w,hw,q2⟩)
     ·exact .inl q1
     ·exact .inr (.refl _)
     ·exact .inr (.step hx q1 hw q2)
    ·rintro (q1|q1)
     ·exact .inl q1
     ·cases q1 with
      |refl=>exact .inr (.inl rfl)
      |step hy hk hm hd =>
       rw[hx] at hy
       cases hy
       exact .inr (.inr ⟨hk,_,hm,hd⟩)
  ·dsimp only
   rw[pN (by omega)]
   simp only[List.take_zero,List.not_mem_nil,false_and,exists_false,and_false,or_false]
   exact or_comm
theorem wU {c:Circ} (C:Cir c) {a:Nat} (ha:a<c.nodes.length) {K:List Bool->Prop} (h:∀ es:List Bool,es.length=c.nodes.length->(∀ b,mk1 es b↔Dep c a b)->K es):ec c a (List.replicate c.nodes.length false) c.nodes.length K:=by
 have hno:∀ z,¬ mk1 (List.replicate c.nodes.length false) z:=by
  intro z
  unfold mk1
  rw[List.getD,List.getElem?_replicate]
  split <;> simp
 refine⟨a+1,sm C (a+1) a _ (by omega) ha (by simp) (fun z _ hz=>absurd hz (hno z)) K fun es h1 h2=>h es h1 fun b=>?_⟩
 rw[h2]
 exact⟨fun q=>q.resolve_left (hno b),.inr⟩
structure FailOk (c:Circ) (f:FailZ):Prop where
 test:0<=f.test
 place:∃ j:Nat,f.index=Int.ofNat j/\j<(if f.next then ofN c [14] else c.outs).length
def dh (c:Circ) (f:FailZ) (b:Nat):Prop :=
 if f.next then b=(ofN c [14]).getD f.index.toNat 0\/Dep c (dOf c ((ofN c [14]).getD f.index.toNat 0)) b else Dep c (c.outs.getD f.index.toNat 0) b
theorem yf {c:Circ} (C:Cir c) {f:FailZ} (F:FailOk c f) {K:List Bool×Bool->Prop} (h:∀ es:List Bool,es.length=c.nodes.length->(∀ b,mk1 es b↔dh c f b)->K (es,true)):cz c (ofN c [14]) f K:=by
 have hlen:=C.len
 obtain⟨t,nx,ix⟩:=f
 obtain⟨h1,j,h2,h3⟩:=F
 dsimp only at h1 h2 h3
 subst h2
 have hj0:ltI (Int.ofNat j) (Int.ofNat 0)=false:=oX.2 (by simp)
 have ht0:ltI t (Int.ofNat 0)=false:=oX.2 h1
 unfold cz
 refine⟨by omega,by omega,?_⟩
 refine eK (fun es=>es.length=c.nodes.length/\∀ b,mk1 es b↔dh c ⟨t,nx,Int.ofNat j⟩ b) (fun k hk=>?_) fun es hes=>⟨hes.1.symm,h es hes.1 hes.2⟩
 refine bx (a:=false) (fun g=>?_) ⟨(fun e=>by cases e),fun _=>?_⟩
 ·dsimp only
  rw[ht0,hj0]
  refine⟨(fun e=>by cases e),fun _=>⟨(fun e=>by cases e),fun _=>?_⟩⟩
  cases nx with
  |true =>
   have h3:j<(ofN c [14]).length:=h3
   refine⟨(fun e=>by cases e),fun _=>⟨fun _=>?_,(fun e=>by cases e)⟩⟩
   rw[show ltI (Int.ofNat j) (Int.ofNat (ofN c [14]).length)=true from lY.2 (by simp only[Int.ofNat_eq_natCast];omega)]
   exact g
  |false =>
   have h3:j<c.outs.length:=h3
   refine⟨fun _=>⟨fun e=>?_,fun _=>⟨(fun e=>by cases e),fun _=>g⟩⟩,(fun e=>by cases e)⟩
   rw[show ltI (Int.ofNat j) (Int.ofNat c.outs.length)=true from lY.2 (by simp only[Int.ofNat_eq_natCast];omega)] at e
   cases e
 ·dsimp only
  cases nx with
  |true =>
   have h3:j<(ofN c [14]).length:=h3
   obtain⟨s,hs⟩:=au h3
   have hsm:=cB.1 (List.mem_of_getElem? hs)
   obtain⟨x,hx⟩:=au hsm.1
   have hk14:x.kind=14:=by rw[<- gL hx];exact hsm.2
   have har:x.ins.length=1:=by
    obtain⟨q1,q2⟩:=(C.good.node s x hx).arity
    rw[hk14] at q1 q2
    have e1:loN 14=1:=by decide
    have e2:hiZ 14=1:=by decide
    rw[e1] at q1
    rw[e2] at q2
    simp only[Int.ofNat_eq_natCast] at q2
    omega
   obtain⟨m,hm⟩:=au (show 0<x.ins.length by omega)
   have hmn:m<c.nodes.length:=(C.good.node s x hx).ins m (List.mem_of_getElem? hm)
   have hd:dOf c s=m:=by unfold dOf;rw[fE hx,List.getD,hm];rfl
   refine⟨fun _=>⟨j,rfl,s,hs,x,hx,m,hm,wU C hmn fun es h4 h5=>?_⟩,(fun e=>by cases e)⟩
   obtain⟨z,hz⟩:=au (show s<es.length by omega)
   refine⟨hsm.1,z,hz,hk _ ⟨by rw[List.length_set];exact h4,fun b=>?_⟩⟩
   rw[pN (by omega),h5]
   unfold dh
   have e1:(ofN c [14]).getD (Int.ofNat j).toNat 0=s:=by rw[show (Int.ofNat j).toNat=j from rfl,List.getD,hs];rfl
   rw[if_pos rfl,e1,hd]
  |false =>
   have h3:j<c.outs.length:=h3
   obtain⟨o,ho⟩:=au h3
   refine⟨(fun e=>by cases e),fun _=>⟨j,rfl,o,ho,wU C (C.good.outs o (List.mem_of_getElem? ho)) fun es h4 h5=>hk es ⟨h4,fun b=>?_⟩⟩⟩
   rw[h5]
   unfold dh
   have:c.outs.getD (Int.ofNat j).toNat 0=o:=by rw[show (Int.ofNat j).toNat=j from rfl,List.getD,ho];rfl
   rw[if_neg (fun e=>by cases e),this]
theorem AO {n:Nat} (hn:n<=16) {K:List Bool->Prop} (h:K (List.replicate n true)):eQ [true] n K:=by
 unfold eQ
 refine bx (a:=()) (fun g=>⟨fun q=>absurd (aJ.1 q) (Nat.not_lt_zero _),fun _=>g⟩) ⟨by rw[List.length_singleton];omega,by omega,rfl,hn,?_⟩
 refine bx (a:=()) (fun g=>bx (a:=false) (fun g2=>⟨fun q=>absurd (aJ.1 q) (Nat.lt_irrefl 0),fun _=>?_⟩) ⟨(fun q=>by cases q),fun _=>g⟩) ?_
 ·have e:ltN 9223372036854775807 n=false:=aU.2 (by omega)
  exact apT e g2
 refine⟨by show n<_;omega,by show 1*n<=_;omega,by show n<_;omega,by show 0+n<=(List.replicate n false).length;simp,?_⟩
 refine ay (fun s=>s.1.length=n/\s.2<=n/\(0<n->0<s.2)/\s.1.take s.2=List.replicate s.2 true) (fun s=>n-s.2) (fun r=>r=List.replicate n true) ?_ ⟨?_,?_,?_,?_⟩ ?_
 ·rintro k ⟨l,i⟩ nx ⟨hl,hi,hp,ht⟩ hnx hk
  dsimp only at hl hi hp ht
  refine⟨fun q=>?_,fun q=>hk _ ?_⟩
  ·have q:i<n:=aJ.1 q
   have hi0:=hp (by omega)
   have htl:(l.take i).length=i:=by rw[List.length_take];omega
   dsimp only
   rw[htl]
   refine⟨by omega,by omega,by omega,by omega,by omega,hnx _ ⟨?_,?_,?_,?_⟩ ?_⟩
   ·dsimp only
    unfold kf
    rw[htl]
    simp only[List.length_append,List.length_take,List.length_drop]
    omega
   ·dsimp only;omega
   ·intro _;dsimp only;omega
   ·dsimp only
    unfold kf
    rw[htl,ht]
    rw[<- List.append_assoc,List.take_append_of_le_length (by simp only[List.length_append,List.length_take,List.length_replicate];omega)]
    rw[List.take_of_length_le (by simp only[List.length_append,List.length_take,List.length_replicate];omega)]
    rw[List.take_replicate,List.replicate_append_replicate]
    congr 1
    omega
   ·dsimp only;omega
  ·have q:n<=i:=aU.1 q
   have:i=n:=by omega
   subst this
   rw[List.take_of_length_le (by omega)] at ht
   exact ht
 ·dsimp only
  unfold kf
  simp only[List.length_append,List.length_take,List.length_drop,List.length_replicate,List.length_singleton]
  omega
 ·dsimp only;omega
 ·intro h0
  dsimp only
  rw[List.length_singleton]
  omega
 ·dsimp only
  unfold kf
  cases n with
  |zero=>rfl
  |succ n =>
   have:min (n+1) [true].length=1:=by rw[List.length_singleton];omega
   rw[this]
   rfl
 ·rintro _ rfl
  exact⟨by simp,h⟩
theorem wY {c:Circ} (C:Cir c) {log:List FailZ} (hl:log.length<2 ^ 60) (F:∀ f∈log,FailOk c f) {K:List Nat×Nat->Prop}
  (h:∀ p:Nat->Bool,(∀ b,b<c.nodes.length->(p b=true ↔ ∀ f∈log,dh c f b))->K ((List.range c.nodes.length).filter p,0)):ck c log K:=by
 have hlen:=C.len
 unfold ck
 refine uj C ⟨(fun q=>absurd rfl (eL.1 q)),fun _=>AO hlen (ic (by omega) ?_)⟩
 refine ay (fun s=>s.2<=log.length/\s.1.length=c.nodes.length/\∀ b,b<c.nodes.length->(mk1 s.1 b ↔ ∀ f∈log.take s.2,dh c f b)) (fun s=>log.length-s.2)
  (fun r=>r.length=c.nodes.length/\∀ b,b<c.nodes.length->(mk1 r b ↔ ∀ f∈log,dh c f b)) ?_ ⟨Nat.zero_le _,by simp,fun b hb=>?_⟩ ?_
 ·rintro k ⟨r,i⟩ nx ⟨hi,hr,hv⟩ hnx hk
  dsimp only at hi hr hv
  refine⟨fun q=>?_,fun q=>hk _ ?_⟩
  ·have q:i<log.length:=aJ.1 q
   obtain⟨f,hf⟩:=au q
   refine eK (fun r2=>r2.length=c.nodes.length/\∀ b,b<c.nodes.length->(mk1 r2 b ↔ ∀ f∈log.take (i+1),dh c f b)) (fun k2 hk2=>⟨f,hf,yf C (F f (List.mem_of_getElem? hf)) fun es h1 h2=>⟨(fun e=>by cases e),fun _=>?_⟩⟩) fun r2 h2=>⟨by omega,hnx _ ⟨q,h2⟩ (by dsimp only;omega)⟩
   refine bn (fun s=>s.2<=r.length/\s.1.length=c.nodes.length/\∀ b,b<c.nodes.length->(mk1 s.1 b↔mk1 r b/\(b<s.2->dh c f b))) (fun s=>r.length-s.2) ?_ ⟨Nat.zero_le _,hr,fun b hb=>⟨fun q=>⟨q,fun e=>absurd e (Nat.not_lt_zero _)⟩,fun q=>q.1⟩⟩
   rintro⟨w,n⟩ nx2 ⟨hn,hw,hwv⟩ hnx2
   dsimp only at hn hw hwv
   refine⟨fun q2=>?_,fun q2=>hk2 _ ⟨hw,fun b hb=>?_⟩⟩
   ·have q2:n<r.length:=aJ.1 q2
    obtain⟨v,hv2⟩:=au (show n<w.length by omega)
    obtain⟨e,he⟩:=au (show n<es.length by omega)
    have hme:=nN he
    have hmv:=nN hv2
    refine eK (fun w2=>w2.length=c.nodes.length/\∀ b,b<c.nodes.length->(mk1 w2 b↔mk1 r b/\(b<n+1->dh c f b))) (fun k3 hk3=>⟨v,hv2,fun e2=>⟨e,he,v,hv2,hk3 _ ⟨by rw[List.length_set];exact hw,fun b hb=>?_⟩⟩,fun e2=>⟨v,hv2,hk3 _ ⟨by rw[List.length_set];exact hw,fun b hb=>?_⟩⟩⟩) fun w2 h3=>⟨by omega,hnx2 _ ⟨q2,h3⟩ (by dsimp only;omega)⟩
    ·by_cases eb:n=b
     ·subst eb
      have:mk1 (w.set n e) n↔e=true:=by unfold mk1;rw[List.getD,List.getElem?_set,if_pos rfl,if_pos (by omega)];rfl
      rw[this,<- hme,h2]
      have:=(hwv n hb).1 (hmv.2 e2)
      exact⟨fun q=>⟨this.1,fun _=>q⟩,fun q=>q.2 (by omega)⟩
     ·have:mk1 (w.set n e) b↔mk1 w b:=by unfold mk1;rw[List.getD,List.getElem?_set,if_neg eb];rfl
      rw[this,hwv b hb]
      exact⟨fun q=>⟨q.1,fun l=>q.2 (by omega)⟩,fun q=>⟨q.1,fun l=>q.2 (by omega)⟩⟩
    ·by_cases eb:n=b
     ·subst eb
      have:mk1 (w.set n false) n↔False:=by unfold mk1;rw[List.getD,List.getElem?_set,if_pos rfl,if_pos (by omega)];simp
      rw[this]
      have h9:¬ mk1 w n:=fun q=>by rw[hmv,e2] at q;cases q
      refine⟨False.elim,fun q=>h9 ((hwv n hb).2 ⟨q.1,fun l=>absurd l (Nat.lt_irrefl _)⟩)⟩
     ·have:mk1 (w.set n false) b↔mk1 w b:=by unfold mk1;rw[List.getD,List.getElem?_set,if_neg eb];rfl
      rw[this,hwv b hb]
      exact⟨fun q=>⟨q.1,fun l=>q.2 (by omega)⟩,fun q=>⟨q.1,fun l=>q.2 (by omega)⟩⟩
   ·have q2:r.length<=n:=aU.1 q2
    rw[hwv b hb,hv b hb,kl hf]
    constructor
    ·rintro⟨h3,h4⟩ g m
     rcases bm.1 m with m|rfl
     ·exact h3 g m
     ·exact h4 (by omega)
    ·intro h3
     exact⟨fun g m=>h3 g (bm.2 (.inl m)),fun _=>h3 f (bm.2 (.inr rfl))⟩
  ·have q:log.length<=i:=aU.1 q
   rw[List.take_of_length_le q] at hv
   exact⟨hr,hv⟩
 ·dsimp only
  refine⟨(fun _ f m=>by cases m),fun _=>?_⟩
  unfold mk1
  rw[List.getD,List.getElem?_replicate,if_pos hb]
  rfl
 ·rintro r ⟨hr,hv⟩
  have hp:∀ b,b<c.nodes.length->(r.getD b false=true ↔ ∀ f∈log,dh c f b):=hv
  have hK:=h (fun b=>r.getD b false) hp
  refine ay (fun s=>s.2<=r.length/\s.1=(List.range s.2).filter fun b=>r.getD b false) (fun s=>r.length-s.2) (fun l=>l=(List.range c.nodes.length).filter fun b=>r.getD b false) ?_ ⟨Nat.zero_le _,rfl⟩ (fun _ e=>e ▸ hK)
  rintro k ⟨l,i⟩ nx ⟨hi,hl2⟩ hnx hk
  dsimp only at hi hl2
  refine⟨fun q=>?_,fun q=>hk _ ?_⟩
  ·have q:i<r.length:=aJ.1 q
   obtain⟨v,hv2⟩:=au q
   have e:r.getD i false=v:=by rw[List.getD,hv2];rfl
   have hll:l.length<=i:=by rw[hl2];exact jM
   refine bx (a:=(List.range (i+1)).filter fun b=>r.getD b false) (fun g2=>⟨v,hv2,fun e2=>⟨by rw[List.length_singleton];omega,?_⟩,fun e2=>?_⟩) ⟨by omega,hnx _ ⟨q,rfl⟩ (by dsimp only;omega)⟩
   ·rw[lW,e,if_pos e2,<- hl2] at g2;exact g2
   ·rw[lW,e,if_neg (by rw[e2];decide),<- hl2,List.append_nil] at g2;exact g2
  ·have q:r.length<=i:=aU.1 q
   have:i=c.nodes.length:=by omega
   subst this
   exact hl2
def BE:List Flt:=[⟨0,⟨0,Int.negSucc 0⟩,0,0⟩,⟨0,⟨0,Int.negSucc 0⟩,1,0⟩,⟨0,⟨2,Int.negSucc 0⟩,1,0⟩]
def BQ:List Pat:=[⟨[1,1],[]⟩,⟨[0,1],[]⟩,⟨[0,0],[]⟩]
def stR (c:Circ) (f:Flt) (p:Pat):Rsp:=fW c (pnF f) (kO c p f)
def vu:List (List FailZ):=[[⟨0,false,0⟩],[⟨1,false,0⟩],[⟨1,false,0⟩,⟨2,false,0⟩]]
theorem yV:sM eC (stR eC) BE BQ=vu:=by decide +kernel
theorem AP:∀ f∈BE,FltOk eC f (stR eC f):=by
 intro f m
 refine vd rf ?_
 have h:∀ f∈BE,f.model=0/\f.value<=1/\f.other=0/\f.line.node<eC.nodes.length /\ -1<=f.line.pin/\f.line.pin<Int.ofNat (insOf eC f.line.node).length:=by decide
 obtain⟨h1,h2,h3,h4,h5,h6⟩:=h f m
 exact⟨h1,h2,h3,h4,h5,h6⟩
theorem AL:∀ p∈BQ,PatOk eC p:=by
 intro p m
 have h:∀ p∈BQ,p.inp.length=(ofN eC [0]).length/\p.state.length=(ofN eC [14]).length/\(∀ v∈p.inp,v<=3)/\∀ v∈p.state,v<=3:=by decide
 obtain⟨h1,h2,h3,h4⟩:=h p m
 exact⟨h1,h2,h3,h4⟩
theorem vF:FewL vu [⟨1,false,0⟩]:=⟨by decide,by decide,by decide⟩
theorem CE {r:List Sus} (hp:r.Perm (iT vu [⟨1,false,0⟩])) (hs:r.Pairwise gS):r=[⟨1,1,0,0⟩,⟨2,1,0,1⟩,⟨0,0,1,1⟩] :=
 xg hp (by decide) hs (by decide)
theorem BR:vR vu [⟨1,false,0⟩]=[1]:=by decide
theorem Ch:∀ f∈([⟨1,false,0⟩]:List FailZ),FailOk eC f:=by
 intro f m
 rw[List.mem_singleton] at m
 subst m
 exact⟨by decide,0,rfl,by decide⟩
theorem BH {b:Nat} (hb:b<3):dh eC ⟨1,false,0⟩ b:=by
 unfold dh
 rw[if_neg (fun e=>by cases e)]
 show Dep eC 2 b
 have:b=0\/b=1\/b=2:=by omega
 rcases this with rfl|rfl|rfl
 ·exact .step (a:=2) (m:=0) (x:=⟨5,[0,1],0,0⟩) rfl (by decide) (by decide) (.refl _)
 ·exact .step (a:=2) (m:=1) (x:=⟨5,[0,1],0,0⟩) rfl (by decide) (by decide) (.refl _)
 ·exact .refl _
theorem pZ {K:Bool->Prop} (h:K true):bh K:=by
 unfold bh
 refine mb rf (Rs:=stR eC) AP AL (by decide) (by decide) ?_
 rw[show sM eC (stR eC) _ _=vu from yV]
 refine bx (a:=false) (fun g=>⟨(fun e=>by cases e),fun _=>⟨(fun e=>by cases e),fun _=>⟨_,rfl,(fun e=>by cases e),fun _=>⟨_,rfl,(fun e=>by cases e),fun _=>⟨_,rfl,g⟩⟩⟩⟩⟩) ⟨(fun e=>by cases e),fun _=>⟨_,rfl,?_⟩⟩
 refine Ac vF fun r hp hs=>?_
 rw[CE hp hs]
 refine⟨_,rfl,zP vF ?_⟩
 rw[BR]
 refine⟨_,rfl,wY rf (by decide) Ch fun p hp=>?_⟩
 have key:∀ b,b<3->p b=true:=fun b hb=>(hp b hb).2 fun f m=>by rw[List.mem_singleton] at m;subst m;exact BH hb
 have e:(List.range eC.nodes.length).filter p=[0,1,2]:=by
  show [0,1,2].filter p=_
  simp[key 0 (by decide),key 1 (by decide),key 2 (by decide)]
 rw[e]
 refine⟨fun _=>⟨fun _=>⟨fun _=>⟨fun _=>⟨_,rfl,fun _=>⟨_,rfl,_,rfl,fun _=>⟨_,rfl,fun _=>⟨_,rfl,fun _=>⟨_,rfl,h⟩,(fun q=>by cases q)⟩,(fun q=>by cases q)⟩,(fun q=>by cases q)⟩,(fun q=>by cases q)⟩,(fun q=>by cases q)⟩,(fun q=>by cases q)⟩,(fun q=>by cases q)⟩,(fun q=>by cases q)⟩
def shB:Sh:=.int .u8
def shG:Sh:=.pair shB (.pair (.pair shB (.pair shB (.pair shB .unit))) .unit)
def shC:Sh:=.pair shB (.pair shB (.pair (.pair shB (.pair shB .unit)) (.pair .bool (.pair .bool (.pair (.pair shB (.pair shB (.pair shB (.pair shB .unit)))) (.pair (.slice shG) (.pair (.slice shB) .unit)))))))
theorem cA {a:Int} (w:shB.wf a):∃ n:Nat,n<256/\a=Int.ofNat n:=by
 have h:=yM w
 exact⟨a.toNat,by omega,by simp;omega⟩
theorem ng {α β:Type}{f:α->Value}{g:β->Value}{p:β->Prop}:∀ (l:List α),(∀ x∈l,∃ y,p y/\f x=g y)->∃ m:List β,(∀ y∈m,p y)/\l.map f=m.map g/\m.length=l.length
 |[],_=>⟨[],(fun _ h=>by cases h),rfl,rfl⟩
 |x::l,h=>by
  obtain⟨y,h1,h2⟩:=h x (by simp)
  obtain⟨m,h3,h4,h5⟩:=ng l fun z hz=>h z (by simp[hz])
  refine⟨y::m,fun z hz=>?_,by simp[h2,h4],by simp[h5]⟩
  rcases List.mem_cons.1 hz with rfl|hz
  ·exact h1
  ·exact h3 z hz
theorem od {l:List Int} (w:(Sh.slice shB).wf l):∃ m:List Nat,(∀ v∈m,v<256)/\(Sh.slice shB).aM l=[ag 1 n8 m]:=by
 obtain⟨_,w2⟩:=w
 obtain⟨m,h1,h2,_⟩:=ng (f:=fun x=>elV shB.one (shB.aM x)) (g:=n8) (p:=(· < 256)) l fun x hx=>by
  obtain⟨n,q1,rfl⟩:=cA (w2 x hx)
  exact⟨n,q1,rfl⟩
 refine⟨m,h1,?_⟩
 ·show [FL 1 (l.map fun x=>elV shB.one (shB.aM x))]=_
  rw[h2];rfl
theorem xZ {l:List shG.Den} (w:(Sh.slice shG).wf l):∃ m:List GData,(∀ v∈m,GOk v)/\(Sh.slice shG).aM l=[FL 4 (m.map rZ)]:=by
 obtain⟨_,w2⟩:=w
 obtain⟨m,h1,h2,_⟩:=ng (f:=fun x=>elV shG.one (shG.aM x)) (g:=rZ) (p:=GOk) l fun x hx=>by
  obtain⟨k,⟨a,b,d,u⟩,u2⟩:=x
  obtain⟨w1,⟨wa,wb,wd,_⟩,_⟩:=w2 _ hx
  obtain⟨k,q1,rfl⟩:=cA w1
  obtain⟨a,q2,rfl⟩:=cA wa
  obtain⟨b,q3,rfl⟩:=cA wb
  obtain⟨d,q4,rfl⟩:=cA wd
  exact⟨⟨k,a,b,d⟩,⟨q1,q2,q3,q4⟩,rfl⟩
 refine⟨m,h1,?_⟩
 ·show [FL 4 (l.map fun x=>elV shG.one (shG.aM x))]=_
  rw[h2]
theorem Ck {x:shC.Den} (w:shC.wf x):∃ y:CData,CB y/\elV (!true) (shC.aM x)=bD y:=by
 obtain⟨i,f,⟨d0,d1,u1⟩,bu,me,⟨p0,p1,p2,p3,u2⟩,gs,os,u3⟩:=x
 obtain⟨wi,wf,⟨wd0,wd1,_⟩,_,_,⟨wp0,wp1,wp2,wp3,_⟩,wg,wo,_⟩:=w
 obtain⟨i,qi,rfl⟩:=cA wi
 obtain⟨f,qf,rfl⟩:=cA wf
 obtain⟨d0,qd0,rfl⟩:=cA wd0
 obtain⟨d1,qd1,rfl⟩:=cA wd1
 obtain⟨p0,qp0,rfl⟩:=cA wp0
 obtain⟨p1,qp1,rfl⟩:=cA wp1
 obtain⟨p2,qp2,rfl⟩:=cA wp2
 obtain⟨p3,qp3,rfl⟩:=cA wp3
 obtain⟨g,g1,g3⟩:=xZ wg
 obtain⟨o,o1,o3⟩:=od wo
 refine⟨⟨i,f,d0,d1,bu,me,p0,p1,p2,p3,g,o⟩,⟨qi,qf,qd0,qd1,qp0,qp1,qp2,qp3,g1,o1⟩,?_⟩
 show Value.agg ⟨[n8 i,n8 f,n8 d0,n8 d1,.bool bu,.bool me,n8 p0,n8 p1,n8 p2,n8 p3]++((Sh.slice shG).aM gs++((Sh.slice shB).aM os++[]))⟩=_
 rw[g3,o3]
 rfl
structure FB (z:FData):Prop where
 model:z.model<256
 node:z.node<256
 pin:z.pin<256
 other:z.other<256
def shF:Sh:=.pair shB (.pair shB (.pair shB (.pair shB (.pair .bool .unit))))
theorem wB {l:List shF.Den} (w:(Sh.slice shF).wf l):∃ m:List FData,(∀ v∈m,FB v)/\(Sh.slice shF).aM l=[ag 5 wO m]:=by
 obtain⟨_,w2⟩:=w
 obtain⟨m,h1,h2,_⟩:=ng (f:=fun x=>elV shF.one (shF.aM x)) (g:=wO) (p:=FB) l fun x hx=>by
  obtain⟨a,b,d,e,o,u⟩:=x
  obtain⟨wa,wb,wd,we,_⟩:=w2 _ hx
  obtain⟨a,q1,rfl⟩:=cA wa
  obtain⟨b,q2,rfl⟩:=cA wb
  obtain⟨d,q3,rfl⟩:=cA wd
  obtain⟨e,q4,rfl⟩:=cA we
  exact⟨⟨a,b,d,e,o⟩,⟨q1,q2,q3,q4⟩,rfl⟩
 refine⟨m,h1,?_⟩
 show [FL 5 (l.map fun x=>elV shF.one (shF.aM x))]=_
 rw[h2];rfl
structure PData where
 inp:List Nat
 state:List Nat
def wA (x:PData):Value:=.agg ⟨[ag 1 n8 x.inp,ag 1 n8 x.state]⟩
structure PB (z:PData):Prop where
 inp:∀ v∈z.inp,v<256
 state:∀ v∈z.state,v<256
structure CaseD where
 c:CData
 f:List FData
 p:List PData
def pJ (x:CaseD):Value:=.agg ⟨[n8 x.c.inp,n8 x.c.dffs,n8 x.c.data0,n8 x.c.data1,.bool x.c.bus,.bool x.c.mem,n8 x.c.port0,n8 x.c.port1,n8 x.c.port2,n8 x.c.port3,FL 4 (x.c.gates.map rZ),FL 1 (x.c.outs.map n8),ag 5 wO x.f,ag 2 wA x.p]⟩
structure CaseB (x:CaseD):Prop where
 c:CB x.c
 f:∀ z∈x.f,FB z
 p:∀ z∈x.p,PB z
def shP:Sh:=.pair (.slice shB) (.pair (.slice shB) .unit)
def qp:Sh:=.pair shC (.pair (.slice shF) (.pair (.slice shP) .unit))
theorem Ai {l:List shP.Den} (w:(Sh.slice shP).wf l):∃ m:List PData,(∀ v∈m,PB v)/\(Sh.slice shP).aM l=[ag 2 wA m]:=by
 obtain⟨_,w2⟩:=w
 obtain⟨m,h1,h2,_⟩:=ng (f:=fun x=>elV shP.one (shP.aM x)) (g:=wA) (p:=PB) l fun x hx=>by
  obtain⟨a,b,u⟩:=x
  obtain⟨wa,wb,_⟩:=w2 _ hx
  obtain⟨a',q1,e1⟩:=od wa
  obtain⟨b',q2,e2⟩:=od wb
  refine⟨⟨a',b'⟩,⟨q1,q2⟩,?_⟩
  show Value.agg ⟨(Sh.slice shB).aM a++((Sh.slice shB).aM b++[])⟩=_
  rw[e1,e2];rfl
 refine⟨m,h1,?_⟩
 show [FL 2 (l.map fun x=>elV shP.one (shP.aM x))]=_
 rw[h2];rfl
theorem yJ {x:qp.Den} (w:qp.wf x):∃ y:CaseD,CaseB y/\elV (!true) (qp.aM x)=pJ y:=by
 obtain⟨c,f,p,u⟩:=x
 obtain⟨wc,wf,wp,_⟩:=w
 obtain⟨c',hc,e1⟩:=Ck wc
 obtain⟨f',hf,e2⟩:=wB wf
 obtain⟨p',hp,e3⟩:=Ai wp
 refine⟨⟨c',f',p'⟩,⟨hc,hf,hp⟩,?_⟩
 have e1:Value.agg ⟨shC.aM c⟩=bD c':=e1
 have e1:shC.aM c=cl (bD c'):=congrArg cl e1
 show Value.agg ⟨shC.aM c++((Sh.slice shF).aM f++((Sh.slice shP).aM p++[]))⟩=_
 rw[e1,e2,e3];rfl
set_option maxHeartbeats 8000000
def bj (p0:Circ) (p1:Nat) (K:Nat->Prop):Prop :=
 an (α:=Nat) (fun k2=>av (S:=(Nat×Nat)) (fun (v3,v4) nx5=>((ltN v4 p0.nodes.length)=true->an (α:=Nat) (fun k7=>∃ x8,p0.nodes[v4]?=some x8/\((eqN x8.kind p1)=true->v3+1<2 ^ 63/\k7 (v3+1))/\((eqN x8.kind p1)=false->k7 v3)) (fun v6=>v4+1<2 ^ 63/\nx5 (v6,(v4+1))))/\((ltN v4 p0.nodes.length)=false->k2 v3)) (0,0)) (fun v1=>K v1)
theorem eB {p0:Circ}{p1:Nat}{K:Nat->Prop} (hm:bj p0 p1 K) {h0:Heap} (hB:HasB vars h0):∃ r,K r/\CallD Tryz.prog NG 51 ⟨[aA p0,n8 p1]⟩ h0 (i64 r) h0:=by
 unfold bj at hm
 refine fw Tryz.func51 hB (enc:=i64) (fun r=>PureV.flat rfl) fun O=>?_;conv=>whnf
 refine gX ?_
 refine fz ?_;refine gH ?_
 apply Cs;conv=>whnf
 apply Cs;refine gH ?_
 refine jn hm 25 [] (fun s=>s) (fun v1 h=>Own vars h0 [] h) (fun v1=>[(5,(i64 v1))]) (fun hm=>?_) ?_
 ·refine gX ?_
  refine lw 25 [1,2] (σ:=(Nat×Nat)) (fun s=>s) (fun (v3,v4) h=>Own vars h0 [] h) (fun (v3,v4)=>[(5,(i64 v3)),(6,(i64 v4))]) (0,0) hm O ?_
  clear hm;rintro⟨v3,v4⟩ nx5 base h hm O
  refine gX ?_
  refine br hm (fun hm=>?_) fun hm=>?_
  ·apply Cs;conv=>whnf
   refine jn hm 25 [1,2,6] (fun s=>s) (fun v6 h=>Own vars h0 [] h) (fun v6=>[(5,(i64 v6))]) (fun hm=>?_) ?_
   ·refine gX ?_
    refine atF hm fun x8 hx8 hm=>?_;refine gX ?_
    refine br hm (fun hm=>?_) fun hm=>?_
    ·refine gX ?_
     refine aF hm fun hm=>?_;refine gH ?_
     exact jx (v3+1) hm O
    ·refine gX ?_
     exact jx v3 hm O
   ·clear hm;rintro v6 base h hm O
    refine gX ?_
    refine aF hm fun hm=>?_;refine gH ?_
    exact jx (v6,(v4+1)) hm O
  ·refine gX ?_
   exact jx v3 hm O
 ·clear hm;rintro v1 base h hm O
  refine gX ?_
  exact fe hm O
def bk (p0:(List Nat)) (p1:Nat) (p2:Nat) (K:(List Nat)->Prop):Prop :=
 an (α:=(List Nat)) (fun k6=>av (S:=((List Nat)×Nat)) (fun (v8,v9) nx11=>((ltN v9 p1)=true->an (α:=(List Nat)) (fun k15=>((eqN p0.length 0)=true->(v8.length+([2]:(List Nat)).length)*1<=2 ^ 47/\k15 (v8++([2]:(List Nat))))/\((eqN p0.length 0)=false->0<p0.length/\∃ x18,p0[(v9%p0.length)]?=some x18/\0<p2/\(v8.length+([(x18%p2)]:(List Nat)).length)*1<=2 ^ 47/\k15 (v8++([(x18%p2)]:(List Nat))))) (fun v13=>v9+1<2 ^ 63/\nx11 (v13,(v9+1))))/\((ltN v9 p1)=false->k6 v8)) (([]:List Nat),0)) (fun v4=>K v4)
theorem ew {p0:(List Nat)}{p1:Nat}{p2:Nat}{K:(List Nat)->Prop} (hm:bk p0 p1 p2 K) {h0:Heap} (hB:HasB vars h0):∃ r,K r/\CallD Tryz.prog NG 50 ⟨[(ag 1 n8) p0,i64 p1,n8 p2]⟩ h0 ((ag 1 n8) r) h0:=by
 unfold bk at hm
 refine fw Tryz.func50 hB (enc:=(ag 1 n8)) (fun r=>dg (fun _=>aj.cons (PureV.flat rfl) aj.nil)) fun O=>?_;conv=>whnf
 apply Cs;conv=>whnf
 apply Cs;refine gH ?_
 have O:=O.aG (.cells (flatC ((([]:List Nat)).map n8)) false)
 apply Cs;conv=>whnf
 apply Cs;refine gH ?_
 have O:=O.aG (.cells (flatC ((([]:List Nat)).map n8)) false)
 refine jn (σ:=(List Nat)×Option Nat) hm 33 [] (fun s=>s.1) (fun (v4,a3) h=>(a3=none->v4=[])/\Own vars h0 [(a3,.cells (flatC (v4.map n8)) false)] h) (fun (v4,a3)=>[(7,(ah 1 a3 (v4.map n8)))]) (fun hm=>?_) ?_
 ·refine gX ?_
  refine lw 33 [0,1,2] (σ:=((List Nat)×Nat)×Option Nat) (fun s=>s.1) (fun ((v8,v9),a7) h=>(a7=none->v8=[])/\Own vars h0 [(a7,.cells (flatC (v8.map n8)) false)] h) (fun ((v8,v9),a7)=>[(7,(ah 1 a7 (v8.map n8))),(8,(i64 v9))]) ((([]:List Nat),0),none) hm ⟨(fun _=>rfl),(O.sel [0] (by decide))⟩ ?_
  clear hm;rintro⟨⟨v8,v9⟩,a7⟩ nx11 base h hm ⟨ha10,O⟩
  refine gX ?_
  refine br hm (fun hm=>?_) fun hm=>?_
  ·apply Cs;conv=>whnf
   refine jn (σ:=(List Nat)×Option Nat) hm 33 [0,1,2,8] (fun s=>s.1) (fun (v13,a12) h=>(a12=none->v13=[])/\Own vars h0 [(a12,.cells (flatC (v13.map n8)) false)] h) (fun (v13,a12)=>[(7,(ah 1 a12 (v13.map n8)))]) (fun hm=>?_) ?_
   ·refine gX ?_
    refine br hm (fun hm=>?_) fun hm=>?_
    ·refine gX ?_
     refine fz ?_;refine gH ?_
     refine O.apL (enc:=n8) (l:=v8) (new:=([2]:(List Nat))) 1 (.head _) ha10 hm fun a16 h ha17 O hm=>?_;refine gH ?_
     exact jx ((v8++([2]:(List Nat))),a16) hm ⟨ha17,O⟩
    ·refine gX ?_
     refine ko hm fun hm=>?_;refine gH ?_
     refine atF hm fun x18 hx18 hm=>?_;refine gH ?_
     refine ko hm fun hm=>?_;refine gH ?_
     refine fz ?_;refine gH ?_
     refine O.apL (enc:=n8) (l:=v8) (new:=([(x18%p2)]:(List Nat))) 1 (.head _) ha10 hm fun a19 h ha20 O hm=>?_;refine gH ?_
     exact jx ((v8++([(x18%p2)]:(List Nat))),a19) hm ⟨ha20,O⟩
   ·clear hm;rintro⟨v13,a12⟩ base h hm ⟨ha14,O⟩
    refine gX ?_
    refine aF hm fun hm=>?_;refine gH ?_
    exact jx ((v13,(v9+1)),a12) hm ⟨ha14,O⟩
  ·refine gX ?_
   exact jx (v8,a7) hm ⟨ha10,O⟩
 ·clear hm;rintro⟨v4,a3⟩ base h hm ⟨ha5,O⟩
  refine gX ?_
  exact⟨v4,hm,O.ext,fun h2 F=>O.eY F (Nat.le_refl _) (.head _) ha5 (fun _=>rfl)⟩
def eH (p0:PData) (p1:Circ) (K:Pat->Prop):Prop :=
 bj p1 0 (fun r3=>bk p0.inp r3 4 (fun r4=>bj p1 14 (fun r5=>bk p0.state r5 3 (fun r6=>K (⟨r4,r6⟩:Pat)))))
theorem pz {p0:PData}{p1:Circ}{K:Pat->Prop} (hm:eH p0 p1 K) {h0:Heap} (hB:HasB vars h0):∃ r,K r/\CallD Tryz.prog NG 31 ⟨[wA p0,aA p1]⟩ h0 (bZ r) h0:=by
 unfold eH at hm
 refine fw Tryz.func31 hB (enc:=bZ) (fun r=>Ah _) fun O=>?_;conv=>whnf
 refine gX ?_
 refine fz ?_;refine gH ?_
 refine fz ?_;refine gH ?_
 (first|refine O.new (ai (l:=[(.slice none 0 0),(.slice none 0 0)]) rfl rfl rfl) fun g1 h O=>?_|refine O.bB (ai (l:=[(.slice none 0 0),(.slice none 0 0)]) rfl rfl rfl) fun g1 h O=>?_);refine gH ?_
 refine gX ?_
 refine dF ?_
 refine gX ?_
 refine dF ?_
 refine gX ?_
 refine ca (eB hm O.has) fun r3 hm=>?_;refine gH ?_
 (first|refine⟨.inr (.inr (ae rfl (O.at (.head _)) rfl rfl)),?_⟩|refine⟨.inr (.inr (ae rfl (O.at (.tail _ (.head _))) rfl rfl)),?_⟩|refine⟨.inr (.inr (ae rfl (O.at (.tail _ (.tail _ (.head _)))) rfl rfl)),?_⟩|refine⟨.inr (.inr (ae rfl (O.at (.tail _ (.tail _ (.tail _ (.head _))))) rfl rfl)),?_⟩|refine⟨.inr (.inr (ae rfl (O.at (.tail _ (.tail _ (.tail _ (.tail _ (.head _)))))) rfl rfl)),?_⟩|refine⟨.inr (.inr (ae rfl (O.at (.tail _ (.tail _ (.tail _ (.tail _ (.tail _ (.head _))))))) rfl rfl)),?_⟩|refine⟨.inr (.inr (ae rfl (O.at (.tail _ (.tail _ (.tail _ (.tail _ (.tail _ (.tail _ (.head _)))))))) rfl rfl)),?_⟩|refine⟨.inl (Ext.refl _),?_⟩|refine⟨.inr (.inr rfl),?_⟩|refine⟨.inr (by kernel_rfl),?_⟩|refine⟨.inl (by kernel_rfl),?_⟩|refine id ?_);refine gH ?_
 refine ca (ew hm O.has) fun r4 hm=>?_;refine gH ?_
 (first|refine⟨.inr (.inr (ae rfl (O.at (.head _)) rfl rfl)),?_⟩|refine⟨.inr (.inr (ae rfl (O.at (.tail _ (.head _))) rfl rfl)),?_⟩|refine⟨.inr (.inr (ae rfl (O.at (.tail _ (.tail _ (.head _)))) rfl rfl)),?_⟩|refine⟨.inr (.inr (ae rfl (O.at (.tail _ (.tail _ (.tail _ (.head _))))) rfl rfl)),?_⟩|refine⟨.inr (.inr (ae rfl (O.at (.tail _ (.tail _ (.tail _ (.tail _ (.head _)))))) rfl rfl)),?_⟩|refine⟨.inr (.inr (ae rfl (O.at (.tail _ (.tail _ (.tail _ (.tail _ (.tail _ (.head _))))))) rfl rfl)),?_⟩|refine⟨.inr (.inr (ae rfl (O.at (.tail _ (.tail _ (.tail _ (.tail _ (.tail _ (.tail _ (.head _)))))))) rfl rfl)),?_⟩|refine⟨.inl (Ext.refl _),?_⟩|refine⟨.inr (.inr rfl),?_⟩|refine⟨.inr (by kernel_rfl),?_⟩|refine⟨.inl (by kernel_rfl),?_⟩|refine id ?_);refine gH ?_
 refine dF ?_
 refine gX ?_
 refine dF ?_
 refine gX ?_
 refine ca (eB hm O.has) fun r5 hm=>?_;refine gH ?_
 (first|refine⟨.inr (.inr (ae rfl (O.at (.head _)) rfl rfl)),?_⟩|refine⟨.inr (.inr (ae rfl (O.at (.tail _ (.head _))) rfl rfl)),?_⟩|refine⟨.inr (.inr (ae rfl (O.at (.tail _ (.tail _ (.head _)))) rfl rfl)),?_⟩|refine⟨.inr (.inr (ae rfl (O.at (.tail _ (.tail _ (.tail _ (.head _))))) rfl rfl)),?_⟩|refine⟨.inr (.inr (ae rfl (O.at (.tail _ (.tail _ (.tail _ (.tail _ (.head _)))))) rfl rfl)),?_⟩|refine⟨.inr (.inr (ae rfl (O.at (.tail _ (.tail _ (.tail _ (.tail _ (.tail _ (.head _))))))) rfl rfl)),?_⟩|refine⟨.inr (.inr (ae rfl (O.at (.tail _ (.tail _ (.tail _ (.tail _ (.tail _ (.tail _ (.head _)))))))) rfl rfl)),?_⟩|refine⟨.inl (Ext.refl _),?_⟩|refine⟨.inr (.inr rfl),?_⟩|refine⟨.inr (by kernel_rfl),?_⟩|refine⟨.inl (by kernel_rfl),?_⟩|refine id ?_);refine gH ?_
 refine ca (ew hm O.has) fun r6 hm=>?_;refine gH ?_
 (first|refine⟨.inr (.inr (ae rfl (O.at (.head _)) rfl rfl)),?_⟩|refine⟨.inr (.inr (ae rfl (O.at (.tail _ (.head _))) rfl rfl)),?_⟩|refine⟨.inr (.inr (ae rfl (O.at (.tail _ (.tail _ (.head _)))) rfl rfl)),?_⟩|refine⟨.inr (.inr (ae rfl (O.at (.tail _ (.tail _ (.tail _ (.head _))))) rfl rfl)),?_⟩|refine⟨.inr (.inr (ae rfl (O.at (.tail _ (.tail _ (.tail _ (.tail _ (.head _)))))) rfl rfl)),?_⟩|refine⟨.inr (.inr (ae rfl (O.at (.tail _ (.tail _ (.tail _ (.tail _ (.tail _ (.head _))))))) rfl rfl)),?_⟩|refine⟨.inr (.inr (ae rfl (O.at (.tail _ (.tail _ (.tail _ (.tail _ (.tail _ (.tail _ (.head _)))))))) rfl rfl)),?_⟩|refine⟨.inl (Ext.refl _),?_⟩|refine⟨.inr (.inr rfl),?_⟩|refine⟨.inr (by kernel_rfl),?_⟩|refine⟨.inl (by kernel_rfl),?_⟩|refine id ?_);refine gH ?_
 refine O.stC 2 (.head _) [((ag 1 n8) r4),((ag 1 n8) r6)] fun h O=>?_;refine gH ?_
 (first|refine⟨.inr (.inr (ae rfl (O.at (.head _)) rfl rfl)),?_⟩|refine⟨.inr (.inr (ae rfl (O.at (.tail _ (.head _))) rfl rfl)),?_⟩|refine⟨.inr (.inr (ae rfl (O.at (.tail _ (.tail _ (.head _)))) rfl rfl)),?_⟩|refine⟨.inr (.inr (ae rfl (O.at (.tail _ (.tail _ (.tail _ (.head _))))) rfl rfl)),?_⟩|refine⟨.inr (.inr (ae rfl (O.at (.tail _ (.tail _ (.tail _ (.tail _ (.head _)))))) rfl rfl)),?_⟩|refine⟨.inr (.inr (ae rfl (O.at (.tail _ (.tail _ (.tail _ (.tail _ (.tail _ (.head _))))))) rfl rfl)),?_⟩|refine⟨.inr (.inr (ae rfl (O.at (.tail _ (.tail _ (.tail _ (.tail _ (.tail _ (.tail _ (.head _)))))))) rfl rfl)),?_⟩|refine⟨.inl (Ext.refl _),?_⟩|refine⟨.inr (.inr rfl),?_⟩|refine⟨.inr (by kernel_rfl),?_⟩|refine⟨.inl (by kernel_rfl),?_⟩|refine id ?_);refine gH ?_
 refine gX ?_
 refine⟨_,aD rfl rfl (O.at (.head _)) rfl rfl (lbE rfl) rfl,?_⟩;conv=>whnf
 exact fe hm O
def bb:Nat->Circ->Nat->Nat->Nat->(Bool->Prop)->Prop
 |0,_,_,_,_,_=>False
 |fu+1,p0,p1,p2,p3,K=>((eqN p1 p2)=true->K true)/\((eqN p1 p2)=false->an (α:=Bool) (fun k2=>((ltN p0.nodes.length p3)=true->k2 true)/\((ltN p0.nodes.length p3)=false->∃ x3,p0.nodes[p1]?=some x3/\k2 (eqN x3.kind 14))) (fun v1=>(v1=true->K false)/\(v1=false->an (α:=Unit) (fun k4=>av (S:=Nat) (fun v5 nx6=>∃ x7,p0.nodes[p1]?=some x7/\((ltN v5 x7.ins.length)=true->∃ x8,p0.nodes[p1]?=some x8/\∃ x9,x8.ins[v5]?=some x9/\p3+1<2 ^ 63/\bb fu p0 x9 p2 (p3+1) (fun r10=>(r10=true->K true)/\(r10=false->v5+1<2 ^ 63/\nx6 (v5+1))))/\((ltN v5 x7.ins.length)=false->k4 ())) 0) (fun _=>K false))))
def bP (p0:Circ) (p1:Nat) (p2:Nat) (p3:Nat) (K:Bool->Prop):Prop:=∃ n,bb n p0 p1 p2 p3 K
theorem gP:∀ (n:Nat) {p0:Circ}{p1:Nat}{p2:Nat}{p3:Nat}{K:Bool->Prop} (_:bb n p0 p1 p2 p3 K) {h0:Heap} (_:HasB vars h0),∃ r,K r/\CallD Tryz.prog NG 93 ⟨[aA p0,i64 p1,i64 p2,i64 p3]⟩ h0 (Value.bool r) h0:=by
 intro n
 induction n with
 | zero=>intro p0 p1 p2 p3 K hm;exact False.elim hm
 | succ fu ih =>
  intro p0 p1 p2 p3 K hm h0 hB
  unfold bb at hm
  refine fw Tryz.func93 hB (enc:=Value.bool) (fun r=>PureV.flat rfl) fun O=>?_;conv=>whnf
  refine gX ?_
  refine fz ?_;refine gX ?_
  refine br hm (fun hm=>?_) fun hm=>?_
  ·refine gX ?_
   exact fe hm O
  ·apply Cs;conv=>whnf
   apply Cs;conv=>whnf
   refine jn hm 52 [1,2,3,4] (fun s=>s) (fun v1 h=>Own vars h0 [] h) (fun v1=>[(26,(.bool v1))]) (fun hm=>?_) ?_
   ·refine gX ?_
    refine br hm (fun hm=>?_) fun hm=>?_
    ·refine gX ?_
     exact jx true hm O
    ·refine gX ?_
     refine atF hm fun x3 hx3 hm=>?_;refine gH ?_
     exact jx (eqN x3.kind 14) hm O
   ·clear hm;rintro v1 base h hm O
    refine gX ?_
    refine br hm (fun hm=>?_) fun hm=>?_
    ·refine gX ?_
     exact fe hm O
    ·apply Cs;conv=>whnf
     refine jn hm 52 [] (fun s=>s) (fun _ h=>Own vars h0 [] h) (fun _=>[]) (fun hm=>?_) ?_
     ·refine gX ?_
      refine lw 52 [1,2,3,4] (σ:=Nat) (fun s=>s) (fun v5 h=>Own vars h0 [] h) (fun v5=>[(9,(i64 v5))]) 0 hm O ?_
      clear hm;rintro v5 nx6 base h hm O
      refine gX ?_
      refine atF hm fun x7 hx7 hm=>?_;refine gX ?_
      refine br hm (fun hm=>?_) fun hm=>?_
      ·refine gX ?_
       refine dF ?_
       refine gX ?_
       refine dF ?_
       refine gX ?_
       refine atF hm fun x8 hx8 hm=>?_;refine gH ?_
       refine dF ?_
       refine gX ?_
       refine atF hm fun x9 hx9 hm=>?_;refine gH ?_
       refine aF hm fun hm=>?_;refine gH ?_
       refine ca (ih hm O.has) fun r10 hm=>?_;refine gH ?_
       (first|refine⟨.inr (.inr (ae rfl (O.at (.head _)) rfl rfl)),?_⟩|refine⟨.inr (.inr (ae rfl (O.at (.tail _ (.head _))) rfl rfl)),?_⟩|refine⟨.inr (.inr (ae rfl (O.at (.tail _ (.tail _ (.head _)))) rfl rfl)),?_⟩|refine⟨.inr (.inr (ae rfl (O.at (.tail _ (.tail _ (.tail _ (.head _))))) rfl rfl)),?_⟩|refine⟨.inr (.inr (ae rfl (O.at (.tail _ (.tail _ (.tail _ (.tail _ (.head _)))))) rfl rfl)),?_⟩|refine⟨.inr (.inr (ae rfl (O.at (.tail _ (.tail _ (.tail _ (.tail _ (.tail _ (.head _))))))) rfl rfl)),?_⟩|refine⟨.inr (.inr (ae rfl (O.at (.tail _ (.tail _ (.tail _ (.tail _ (.tail _ (.tail _ (.head _)))))))) rfl rfl)),?_⟩|refine⟨.inl (Ext.refl _),?_⟩|refine⟨.inr (.inr rfl),?_⟩|refine⟨.inr (by kernel_rfl),?_⟩|refine⟨.inl (by kernel_rfl),?_⟩|refine id ?_);refine gH ?_
       refine gX ?_
       refine br hm (fun hm=>?_) fun hm=>?_
       ·refine gX ?_
        exact fe hm O
       ·refine gX ?_
        refine aF hm fun hm=>?_;refine gH ?_
        exact jx (v5+1) hm O
      ·refine gX ?_
       exact jx () hm O
     ·clear hm;rintro _ base h hm O
      refine gX ?_
      exact fe hm O
theorem dE {p0:Circ}{p1:Nat}{p2:Nat}{p3:Nat}{K:Bool->Prop} (hm:bP p0 p1 p2 p3 K) {h0:Heap} (hB:HasB vars h0):∃ r,K r/\CallD Tryz.prog NG 93 ⟨[aA p0,i64 p1,i64 p2,i64 p3]⟩ h0 (Value.bool r) h0:=by
 obtain⟨n,hm⟩:=hm
 exact gP n hm hB
def bF (p0:Circ) (p1:Flt) (K:Nat->Prop):Prop :=
 an (α:=Bool) (fun k2=>((ltN 3 p1.model)=true->k2 true)/\((ltN 3 p1.model)=false->((ltN 1 p1.value)=true->k2 true)/\((ltN 1 p1.value)=false->((ltN p1.line.node 0)=true->k2 true)/\((ltN p1.line.node 0)=false->((!ltN p1.line.node p0.nodes.length)=true->k2 true)/\((!ltN p1.line.node p0.nodes.length)=false->((ltI p1.line.pin (Int.negSucc 0))=true->k2 true)/\((ltI p1.line.pin (Int.negSucc 0))=false->∃ x3,p0.nodes[p1.line.node]?=some x3/\k2 (!ltI p1.line.pin (Int.ofNat x3.ins.length)))))))) (fun v1=>(v1=true->K 1)/\(v1=false->((ltN p1.model 2)=true->((neN p1.other 0)=true->K 1)/\((neN p1.other 0)=false->K 0))/\((ltN p1.model 2)=false->an (α:=Bool) (fun k5=>((neZ p1.line.pin (Int.negSucc 0))=true->k5 true)/\((neZ p1.line.pin (Int.negSucc 0))=false->((ltN p1.other 0)=true->k5 true)/\((ltN p1.other 0)=false->((!ltN p1.other p0.nodes.length)=true->k5 true)/\((!ltN p1.other p0.nodes.length)=false->((eqN p1.line.node p1.other)=true->k5 true)/\((eqN p1.line.node p1.other)=false->((eqN p1.model 2)=true->((ltN p1.other p1.line.node)=true->k5 true)/\((ltN p1.other p1.line.node)=false->((eqN p1.model 3)=true->k5 (neN p1.value 0))/\((eqN p1.model 3)=false->k5 false)))/\((eqN p1.model 2)=false->((eqN p1.model 3)=true->k5 (neN p1.value 0))/\((eqN p1.model 3)=false->k5 false))))))) (fun v4=>(v4=true->K 1)/\(v4=false->an (α:=Bool) (fun k7=>∃ x8,p0.nodes[p1.line.node]?=some x8/\((eqN x8.kind 12)=true->k7 true)/\((eqN x8.kind 12)=false->∃ x9,p0.nodes[p1.other]?=some x9/\k7 (eqN x9.kind 12))) (fun v6=>(v6=true->K 7)/\(v6=false->an (α:=Bool) (fun k11=>bP p0 p1.line.node p1.other 0 (fun r12=>(r12=true->k11 true)/\(r12=false->bP p0 p1.other p1.line.node 0 (fun r13=>k11 r13)))) (fun v10=>(v10=true->K 6)/\(v10=false->K 0)))))))))
theorem iN {p0:Circ}{p1:Flt}{K:Nat->Prop} (hm:bF p0 p1 K) {h0:Heap} (hB:HasB vars h0):∃ r,K r/\CallD Tryz.prog NG 49 ⟨[aA p0,aC p1]⟩ h0 (i64 r) h0:=by
 unfold bF at hm
 refine fw Tryz.func49 hB (enc:=i64) (fun r=>PureV.flat rfl) fun O=>?_;conv=>whnf
 refine gX ?_
 refine fz ?_;refine gH ?_
 refine fz ?_;refine gH ?_
 apply Cs;conv=>whnf
 apply Cs;refine gH ?_
 apply Cs;conv=>whnf
 refine jn hm 128 [2,3,5] (fun s=>s) (fun v1 h=>Own vars h0 [] h) (fun v1=>[(52,(.bool v1))]) (fun hm=>?_) ?_
 ·refine gX ?_
  refine br hm (fun hm=>?_) fun hm=>?_
  ·refine gX ?_
   refine bt ?_;refine gH ?_
   refine bt ?_;refine gH ?_
   refine bt ?_;refine gH ?_
   refine bt ?_;refine gH ?_
   exact jx true hm O
  ·refine gX ?_
   refine br hm (fun hm=>?_) fun hm=>?_
   ·refine gX ?_
    refine bt ?_;refine gH ?_
    refine bt ?_;refine gH ?_
    refine bt ?_;refine gH ?_
    exact jx true hm O
   ·refine gX ?_
    refine br hm (fun hm=>?_) fun hm=>?_
    ·refine gX ?_
     refine bt ?_;refine gH ?_
     refine bt ?_;refine gH ?_
     exact jx true hm O
    ·refine gX ?_
     refine br hm (fun hm=>?_) fun hm=>?_
     ·refine gX ?_
      refine bt ?_;refine gH ?_
      exact jx true hm O
     ·refine gX ?_
      refine br hm (fun hm=>?_) fun hm=>?_
      ·refine gX ?_
       exact jx true hm O
      ·refine gX ?_
       refine dF ?_
       refine gX ?_
       refine atF hm fun x3 hx3 hm=>?_;refine gH ?_
       refine dF ?_
       refine gX ?_
       exact jx (!ltI p1.line.pin (Int.ofNat x3.ins.length)) hm O
 ·clear hm;rintro v1 base h hm O
  refine gX ?_
  refine br hm (fun hm=>?_) fun hm=>?_
  ·refine gX ?_
   exact fe hm O
  ·refine gX ?_
   refine br hm (fun hm=>?_) fun hm=>?_
   ·refine gX ?_
    refine br hm (fun hm=>?_) fun hm=>?_
    ·refine gX ?_
     exact fe hm O
    ·refine gX ?_
     exact fe hm O
   ·apply Cs;conv=>whnf
    apply Cs;conv=>whnf
    apply Cs;refine gH ?_
    apply Cs;conv=>whnf
    apply Cs;refine gH ?_
    apply Cs;conv=>whnf
    refine jn hm 128 [2,6,7] (fun s=>s) (fun v4 h=>Own vars h0 [] h) (fun v4=>[(101,(.bool v4))]) (fun hm=>?_) ?_
    ·refine gX ?_
     refine br hm (fun hm=>?_) fun hm=>?_
     ·refine gX ?_
      refine bt ?_;refine gH ?_
      refine bt ?_;refine gH ?_
      refine bt ?_;refine gH ?_
      refine bt ?_;refine gH ?_
      exact jx true hm O
     ·refine gX ?_
      refine br hm (fun hm=>?_) fun hm=>?_
      ·refine gX ?_
       refine bt ?_;refine gH ?_
       refine bt ?_;refine gH ?_
       refine bt ?_;refine gH ?_
       exact jx true hm O
      ·refine gX ?_
       refine br hm (fun hm=>?_) fun hm=>?_
       ·refine gX ?_
        refine bt ?_;refine gH ?_
        refine bt ?_;refine gH ?_
        exact jx true hm O
       ·refine gX ?_
        refine br hm (fun hm=>?_) fun hm=>?_
        ·refine gX ?_
         refine bt ?_;refine gH ?_
         exact jx true hm O
        ·refine gX ?_
         refine br hm (fun hm=>?_) fun hm=>?_
         ·refine gX ?_
          refine br hm (fun hm=>?_) fun hm=>?_
          ·refine gX ?_
           exact jx true hm O
          ·refine gX ?_
           refine br hm (fun hm=>?_) fun hm=>?_
           ·refine gX ?_
            exact jx (neN p1.value 0) hm O
           ·refine gX ?_
            exact jx false hm O
         ·refine gX ?_
          refine bf ?_;refine gH ?_
          refine br hm (fun hm=>?_) fun hm=>?_
          ·refine gX ?_
           exact jx (neN p1.value 0) hm O
          ·refine gX ?_
           exact jx false hm O
    ·clear hm;rintro v4 base h hm O
     refine gX ?_
     refine br hm (fun hm=>?_) fun hm=>?_
     ·refine gX ?_
      exact fe hm O
     ·apply Cs;conv=>whnf
      apply Cs;conv=>whnf
      refine jn hm 128 [2,6,7] (fun s=>s) (fun v6 h=>Own vars h0 [] h) (fun v6=>[(117,(.bool v6))]) (fun hm=>?_) ?_
      ·refine gX ?_
       refine atF hm fun x8 hx8 hm=>?_;refine gH ?_
       refine br hm (fun hm=>?_) fun hm=>?_
       ·refine gX ?_
        exact jx true hm O
       ·refine gX ?_
        refine atF hm fun x9 hx9 hm=>?_;refine gH ?_
        exact jx (eqN x9.kind 12) hm O
      ·clear hm;rintro v6 base h hm O
       refine gX ?_
       refine br hm (fun hm=>?_) fun hm=>?_
       ·refine gX ?_
        exact fe hm O
       ·apply Cs;conv=>whnf
        apply Cs;conv=>whnf
        refine jn hm 128 [] (fun s=>s) (fun v10 h=>Own vars h0 [] h) (fun v10=>[(127,(.bool v10))]) (fun hm=>?_) ?_
        ·refine gX ?_
         refine ca (dE hm O.has) fun r12 hm=>?_;refine gH ?_
         refine br hm (fun hm=>?_) fun hm=>?_
         ·refine gX ?_
          exact jx true hm O
         ·refine gX ?_
          refine ca (dE hm O.has) fun r13 hm=>?_;refine gH ?_
          exact jx r13 hm O
        ·clear hm;rintro v10 base h hm O
         refine gX ?_
         refine br hm (fun hm=>?_) fun hm=>?_
         ·refine gX ?_
          exact fe hm O
         ·refine gX ?_
          exact fe hm O
def eG (p0:FData) (p1:Circ) (K:Flt->Prop):Prop :=
 ((eqN p1.nodes.length 0)=true->K (⟨0,(⟨0,(Int.negSucc 0)⟩:LnZ),0,0⟩:Flt))/\((eqN p1.nodes.length 0)=false->0<4/\p0.node<256/\0<p1.nodes.length/\an (α:=Nat) (fun k6=>(p0.one=true->k6 1)/\(p0.one=false->k6 0)) (fun v5=>an (α:=(Nat×Nat×Nat)) (fun k10=>((!ltN (p0.model%4) 2)=true->p0.other<256/\0<p1.nodes.length/\an (α:=(Nat×Nat)) (fun k13=>an (α:=Bool) (fun k15=>((eqN (p0.model%4) 2)=true->k15 (ltN (p0.other%p1.nodes.length) (p0.node%p1.nodes.length)))/\((eqN (p0.model%4) 2)=false->k15 false)) (fun v14=>(v14=true->k13 ((p0.other%p1.nodes.length),(p0.node%p1.nodes.length)))/\(v14=false->k13 ((p0.node%p1.nodes.length),(p0.other%p1.nodes.length))))) (fun (v11,v12)=>an (α:=Nat) (fun k17=>((eqN (p0.model%4) 3)=true->k17 0)/\((eqN (p0.model%4) 3)=false->k17 v5)) (fun v16=>bF p1 (⟨(p0.model%4),(⟨v11,(Int.negSucc 0)⟩:LnZ),v16,v12⟩:Flt) (fun r18=>((eqN r18 0)=true->K (⟨(p0.model%4),(⟨v11,(Int.negSucc 0)⟩:LnZ),v16,v12⟩:Flt))/\((eqN r18 0)=false->k10 (0,v11,v16))))))/\((!ltN (p0.model%4) 2)=false->k10 ((p0.model%4),(p0.node%p1.nodes.length),v5))) (fun (v7,v8,v9)=>p0.pin<256/\∃ x19,p1.nodes[v8]?=some x19/\x19.ins.length+1<2 ^ 63/\0<(x19.ins.length+1) /\ -(2 ^ 63)<=((Int.ofNat (p0.pin%(x19.ins.length+1)))-(Int.ofNat 1))/\((Int.ofNat (p0.pin%(x19.ins.length+1)))-(Int.ofNat 1))<2 ^ 63/\K (⟨v7,(⟨v8,((Int.ofNat (p0.pin%(x19.ins.length+1)))-(Int.ofNat 1))⟩:LnZ),v9,0⟩:Flt))))
theorem pD {p0:FData}{p1:Circ}{K:Flt->Prop} (hm:eG p0 p1 K) {h0:Heap} (hB:HasB vars h0):∃ r,K r/\CallD Tryz.prog NG 30 ⟨[wO p0,aA p1]⟩ h0 (aC r) h0:=by
 unfold eG at hm
 refine fw Tryz.func30 hB (enc:=aC) (fun r=>zS _) fun O=>?_;conv=>whnf
 refine gX ?_
 refine fz ?_;refine gH ?_
 refine fz ?_;refine gH ?_
 (first|refine O.new (ai (l:=[(n8 0),(i64 0),(i64 0),(n8 0),(i64 0)]) rfl rfl rfl) fun g1 h O=>?_|refine O.bB (ai (l:=[(n8 0),(i64 0),(i64 0),(n8 0),(i64 0)]) rfl rfl rfl) fun g1 h O=>?_);refine gH ?_
 refine gX ?_
 refine br hm (fun hm=>?_) fun hm=>?_
 ·refine gX ?_
  refine O.stC 5 (.head _) [(n8 0),(i64 0),(z64 (Int.negSucc 0)),(n8 0),(i64 0)] fun h O=>?_;refine gX ?_
  refine⟨_,aD rfl rfl (O.at (.head _)) rfl rfl (lbE rfl) rfl,?_⟩;conv=>whnf
  exact fe hm O
 ·refine gX ?_
  refine ko hm fun hm=>?_;refine gH ?_
  refine aCv hm wI8 fun hm=>?_;refine gH ?_
  refine dF ?_
  refine gX ?_
  refine ko hm fun hm=>?_;refine gH ?_
  (first|refine O.new (ai (l:=[(n8 0),(i64 0),(i64 0),(n8 0),(i64 0)]) rfl rfl rfl) fun g3 h O=>?_|refine O.bB (ai (l:=[(n8 0),(i64 0),(i64 0),(n8 0),(i64 0)]) rfl rfl rfl) fun g3 h O=>?_);refine gH ?_
  refine O.stC 5 (.head _) [(n8 (p0.model%4)),(i64 (p0.node%p1.nodes.length)),(z64 (Int.negSucc 0)),(n8 0),(i64 0)] fun h O=>?_;refine gH ?_
  (first|refine⟨.inr (.inr (ae rfl (O.at (.head _)) rfl rfl)),?_⟩|refine⟨.inr (.inr (ae rfl (O.at (.tail _ (.head _))) rfl rfl)),?_⟩|refine⟨.inr (.inr (ae rfl (O.at (.tail _ (.tail _ (.head _)))) rfl rfl)),?_⟩|refine⟨.inr (.inr (ae rfl (O.at (.tail _ (.tail _ (.tail _ (.head _))))) rfl rfl)),?_⟩|refine⟨.inr (.inr (ae rfl (O.at (.tail _ (.tail _ (.tail _ (.tail _ (.head _)))))) rfl rfl)),?_⟩|refine⟨.inr (.inr (ae rfl (O.at (.tail _ (.tail _ (.tail _ (.tail _ (.tail _ (.head _))))))) rfl rfl)),?_⟩|refine⟨.inr (.inr (ae rfl (O.at (.tail _ (.tail _ (.tail _ (.tail _ (.tail _ (.tail _ (.head _)))))))) rfl rfl)),?_⟩|refine⟨.inl (Ext.refl _),?_⟩|refine⟨.inr (.inr rfl),?_⟩|refine⟨.inr (by kernel_rfl),?_⟩|refine⟨.inl (by kernel_rfl),?_⟩|refine id ?_);refine gH ?_
  refine jn hm 86 [2,3,4,5] (fun s=>s) (fun v5 h=>Own vars h0 [(sC g1 [(n8 0),(i64 0),(i64 0),(n8 0),(i64 0)]),(sC g3 [(n8 (p0.model%4)),(i64 (p0.node%p1.nodes.length)),(z64 (Int.negSucc 0)),(n8 v5),(i64 0)])] h) (fun v5=>[]) (fun hm=>?_) ?_
  ·refine gX ?_
   refine br hm (fun hm=>?_) fun hm=>?_
   ·refine gX ?_
    refine O.stC 1 (.head _) [(n8 (p0.model%4)),(i64 (p0.node%p1.nodes.length)),(z64 (Int.negSucc 0)),(n8 1),(i64 0)] fun h O=>?_;refine gH ?_
    exact jx 1 hm (O.sel [1,0] (by decide))
   ·refine gX ?_
    exact jx 0 hm (O.sel [1,0] (by decide))
  ·clear hm;rintro v5 base h hm O
   conv=>whnf
   refine jn hm 86 [2,3,4,5] (fun s=>s) (fun (v7,v8,v9) h=>Own vars h0 [(sC g1 [(n8 0),(i64 0),(i64 0),(n8 0),(i64 0)]),(sC g3 [(n8 v7),(i64 v8),(z64 (Int.negSucc 0)),(n8 v9),(i64 0)])] h) (fun (v7,v8,v9)=>[]) (fun hm=>?_) ?_
   ·refine gX ?_
    refine br hm (fun hm=>?_) fun hm=>?_
    ·refine gX ?_
     refine aCv hm wI8 fun hm=>?_;refine gH ?_
     refine ko hm fun hm=>?_;refine gH ?_
     refine O.stC 1 (.tail _ (.head _)) [(n8 (p0.model%4)),(i64 (p0.node%p1.nodes.length)),(z64 (Int.negSucc 0)),(n8 v5),(i64 (p0.other%p1.nodes.length))] fun h O=>?_;refine gH ?_
     refine jn hm 86 [2,3,4,5] (fun s=>s) (fun (v11,v12) h=>Own vars h0 [(sC g1 [(n8 0),(i64 0),(i64 0),(n8 0),(i64 0)]),(sC g3 [(n8 (p0.model%4)),(i64 v11),(z64 (Int.negSucc 0)),(n8 v5),(i64 v12)])] h) (fun (v11,v12)=>[]) (fun hm=>?_) ?_
     ·refine jn hm 86 [2,3,4,5] (fun s=>s) (fun v14 h=>Own vars h0 [(sC g1 [(n8 0),(i64 0),(i64 0),(n8 0),(i64 0)]),(sC g3 [(n8 (p0.model%4)),(i64 (p0.node%p1.nodes.length)),(z64 (Int.negSucc 0)),(n8 v5),(i64 (p0.other%p1.nodes.length))])] h) (fun v14=>[(48,(.bool v14))]) (fun hm=>?_) ?_
      ·refine gX ?_
       refine br hm (fun hm=>?_) fun hm=>?_
       ·refine gX ?_
        exact jx (ltN (p0.other%p1.nodes.length) (p0.node%p1.nodes.length)) hm O
       ·refine gX ?_
        exact jx false hm O
      ·clear hm;rintro v14 base h hm O
       refine gX ?_
       refine br hm (fun hm=>?_) fun hm=>?_
       ·refine gX ?_
        refine O.stC 1 (.tail _ (.head _)) [(n8 (p0.model%4)),(i64 (p0.other%p1.nodes.length)),(z64 (Int.negSucc 0)),(n8 v5),(i64 (p0.other%p1.nodes.length))] fun h O=>?_;refine gH ?_
        refine O.stC 1 (.tail _ (.head _)) [(n8 (p0.model%4)),(i64 (p0.other%p1.nodes.length)),(z64 (Int.negSucc 0)),(n8 v5),(i64 (p0.node%p1.nodes.length))] fun h O=>?_;refine gH ?_
        exact jx ((p0.other%p1.nodes.length),(p0.node%p1.nodes.length)) hm O
       ·refine gX ?_
        exact jx ((p0.node%p1.nodes.length),(p0.other%p1.nodes.length)) hm O
     ·clear hm;rintro⟨v11,v12⟩ base h hm O
      conv=>whnf
      refine jn hm 86 [2,3,4,5] (fun s=>s) (fun v16 h=>Own vars h0 [(sC g1 [(n8 0),(i64 0),(i64 0),(n8 0),(i64 0)]),(sC g3 [(n8 (p0.model%4)),(i64 v11),(z64 (Int.negSucc 0)),(n8 v16),(i64 v12)])] h) (fun v16=>[]) (fun hm=>?_) ?_
      ·refine gX ?_
       refine br hm (fun hm=>?_) fun hm=>?_
       ·refine gX ?_
        refine O.stC 1 (.tail _ (.head _)) [(n8 (p0.model%4)),(i64 v11),(z64 (Int.negSucc 0)),(n8 0),(i64 v12)] fun h O=>?_;refine gH ?_
        exact jx 0 hm O
       ·refine gX ?_
        exact jx v5 hm O
      ·clear hm;rintro v16 base h hm O
       refine gX ?_
       refine ldA (O.at (.tail _ (.head _))) ?_;refine gH ?_
       refine ca (iN hm O.has) fun r18 hm=>?_;refine gX ?_
       refine br hm (fun hm=>?_) fun hm=>?_
       ·refine gX ?_
        refine ldA (O.at (.tail _ (.head _))) ?_;refine gH ?_
        refine O.stC 5 (.head _) [(n8 (p0.model%4)),(i64 v11),(z64 (Int.negSucc 0)),(n8 v16),(i64 v12)] fun h O=>?_;refine gX ?_
        refine⟨_,aD rfl rfl (O.at (.head _)) rfl rfl (lbE rfl) rfl,?_⟩;conv=>whnf
        exact fe hm O
       ·refine gX ?_
        refine O.stC 1 (.tail _ (.head _)) [(n8 0),(i64 v11),(z64 (Int.negSucc 0)),(n8 v16),(i64 v12)] fun h O=>?_;refine gX ?_
        refine O.stC 1 (.tail _ (.head _)) [(n8 0),(i64 v11),(z64 (Int.negSucc 0)),(n8 v16),(i64 0)] fun h O=>?_;refine gH ?_
        exact jx (0,v11,v16) hm O
    ·refine gX ?_
     exact jx ((p0.model%4),(p0.node%p1.nodes.length),v5) hm O
   ·clear hm;rintro⟨v7,v8,v9⟩ base h hm O
    refine gX ?_
    refine aCv hm wI8 fun hm=>?_;refine gH ?_
    refine dF ?_
    refine gX ?_
    refine atF hm fun x19 hx19 hm=>?_;refine gH ?_
    refine dF ?_
    refine gX ?_
    refine aF hm fun hm=>?_;refine gH ?_
    refine ko hm fun hm=>?_;refine gH ?_
    refine⟨_,uC (a:=(Int.ofNat (p0.pin%(x19.ins.length+1)))) (b:=(Int.ofNat 1)) rfl rfl hm.1 hm.2.1,?_⟩;refine gH ?_
    replace hm:=hm.2.2
    refine O.stC 1 (.tail _ (.head _)) [(n8 v7),(i64 v8),(z64 ((Int.ofNat (p0.pin%(x19.ins.length+1)))-(Int.ofNat 1))),(n8 v9),(i64 0)] fun h O=>?_;refine gH ?_
    (first|refine⟨.inr (.inr (ae rfl (O.at (.head _)) rfl rfl)),?_⟩|refine⟨.inr (.inr (ae rfl (O.at (.tail _ (.head _))) rfl rfl)),?_⟩|refine⟨.inr (.inr (ae rfl (O.at (.tail _ (.tail _ (.head _)))) rfl rfl)),?_⟩|refine⟨.inr (.inr (ae rfl (O.at (.tail _ (.tail _ (.tail _ (.head _))))) rfl rfl)),?_⟩|refine⟨.inr (.inr (ae rfl (O.at (.tail _ (.tail _ (.tail _ (.tail _ (.head _)))))) rfl rfl)),?_⟩|refine⟨.inr (.inr (ae rfl (O.at (.tail _ (.tail _ (.tail _ (.tail _ (.tail _ (.head _))))))) rfl rfl)),?_⟩|refine⟨.inr (.inr (ae rfl (O.at (.tail _ (.tail _ (.tail _ (.tail _ (.tail _ (.tail _ (.head _)))))))) rfl rfl)),?_⟩|refine⟨.inl (Ext.refl _),?_⟩|refine⟨.inr (.inr rfl),?_⟩|refine⟨.inr (by kernel_rfl),?_⟩|refine⟨.inl (by kernel_rfl),?_⟩|refine id ?_);refine gH ?_
    refine gX ?_
    refine ldA (O.at (.tail _ (.head _))) ?_;refine gH ?_
    refine O.stC 5 (.head _) [(n8 v7),(i64 v8),(z64 ((Int.ofNat (p0.pin%(x19.ins.length+1)))-(Int.ofNat 1))),(n8 v9),(i64 0)] fun h O=>?_;refine gX ?_
    refine⟨_,aD rfl rfl (O.at (.head _)) rfl rfl (lbE rfl) rfl,?_⟩;conv=>whnf
    exact fe hm O
def cn (p0:CaseD) (K:(Circ×(List Flt)×(List Pat))->Prop):Prop :=
 bS p0.c (fun r5=>an (α:=(List Flt)) (fun k12=>av (S:=((List Flt)×Nat)) (fun (v14,v15) nx17=>an (α:=Bool) (fun k20=>((ltN v15 p0.f.length)=true->k20 (ltN v15 80))/\((ltN v15 p0.f.length)=false->k20 false)) (fun v18=>(v18=true->∃ x21,p0.f[v15]?=some x21/\an (α:=Nat) (fun k26=>0<4/\((eqN (x21.model%4) 1)=true->k26 0)/\((eqN (x21.model%4) 1)=false->k26 x21.model)) (fun v24=>eG (⟨v24,x21.node,x21.pin,x21.other,x21.one⟩:FData) r5 (fun r27=>(v14.length+([r27]:(List Flt)).length)*40<=2 ^ 47/\v15+1<2 ^ 63/\nx17 ((v14++([r27]:(List Flt))),(v15+1)))))/\(v18=false->k12 v14))) (([]:List Flt),0)) (fun v10=>an (α:=(List Pat)) (fun k35=>av (S:=((List Pat)×Nat)) (fun (v37,v38) nx41=>an (α:=Bool) (fun k45=>((ltN v38 p0.p.length)=true->k45 (ltN v38 100))/\((ltN v38 p0.p.length)=false->k45 false)) (fun v42=>(v42=true->∃ x46,p0.p[v38]?=some x46/\eH x46 r5 (fun r47=>(v37.length+([r47]:(List Pat)).length)*48<=2 ^ 47/\v38+1<2 ^ 63/\nx41 ((v37++([r47]:(List Pat))),(v38+1))))/\(v42=false->k35 v37))) (([]:List Pat),0)) (fun v32=>K (r5,v10,v32))))
theorem mz {p0:CaseD}{K:(Circ×(List Flt)×(List Pat))->Prop} (hm:cn p0 K) {h0:Heap} (hB:HasB vars h0):∃ r,K r/\CallD Tryz.prog NG 13 ⟨[pJ p0]⟩ h0 ((fun (r:(Circ×(List Flt)×(List Pat)))=>Value.tuple ⟨[aA (r.1),(ag 5 aC) (r.2.1),(ag 2 bZ) (r.2.2)]⟩) r) h0:=by
 unfold cn at hm
 refine fw Tryz.func13 hB (enc:=(fun (r:(Circ×(List Flt)×(List Pat)))=>Value.tuple ⟨[aA (r.1),(ag 5 aC) (r.2.1),(ag 2 bZ) (r.2.2)]⟩)) (fun r=>PureV.tup (aj.cons (oA _) (aj.cons (dg (fun _=>se _)) (aj.cons (dg (fun _=>sA _)) (aj.nil))))) fun O=>?_;conv=>whnf
 refine gX ?_
 refine fz ?_;refine gH ?_
 (first|refine O.new (ai (l:=[nS,nS,nS,nS]) rfl rfl rfl) fun g1 h O=>?_|refine O.bB (ai (l:=[nS,nS,nS,nS]) rfl rfl rfl) fun g1 h O=>?_);refine gH ?_
 have O:=O.aG (.cells (flatC ((([]:List Flt)).map aC)) false)
 have O:=O.aG (.cells (flatC ((([]:List Pat)).map bZ)) false)
 refine gX ?_
 refine ca (ia hm O.has) fun r5 hm=>?_;refine gH ?_
 (first|refine O.new (ai (l:=[nS,nS,nS,nS]) rfl rfl rfl) fun g6 h O=>?_|refine O.bB (ai (l:=[nS,nS,nS,nS]) rfl rfl rfl) fun g6 h O=>?_);refine gH ?_
 refine O.stC 4 (.head _) [((ag 4 al) r5.nodes),((ag 1 Value.string) r5.names),((ag 3 ax) r5.mems),((ag 1 i64) r5.outs)] fun h O=>?_;refine gH ?_
 apply Cs;conv=>whnf
 apply Cs;refine gH ?_
 have O:=O.aG (.cells (flatC ((([]:List Flt)).map aC)) false)
 refine jn (σ:=(List Flt)×Option Nat) hm 65 [1,2,5] (fun s=>s.1) (fun (v10,a9) h=>(a9=none->v10=[])/\Own vars h0 [(sC g1 [nS,nS,nS,nS]),(sC g6 [((ag 4 al) r5.nodes),((ag 1 Value.string) r5.names),((ag 3 ax) r5.mems),((ag 1 i64) r5.outs)]),(a9,.cells (flatC (v10.map aC)) false)] h) (fun (v10,a9)=>[(6,(ah 5 a9 (v10.map aC)))]) (fun hm=>?_) ?_
 ·refine gX ?_
  refine lw 65 [1,2,5] (σ:=((List Flt)×Nat)×Option Nat) (fun s=>s.1) (fun ((v14,v15),a13) h=>(a13=none->v14=[])/\Own vars h0 [(sC g1 [nS,nS,nS,nS]),(sC g6 [((ag 4 al) r5.nodes),((ag 1 Value.string) r5.names),((ag 3 ax) r5.mems),((ag 1 i64) r5.outs)]),(a13,.cells (flatC (v14.map aC)) false)] h) (fun ((v14,v15),a13)=>[(6,(ah 5 a13 (v14.map aC))),(7,(i64 v15))]) ((([]:List Flt),0),none) hm ⟨(fun _=>rfl),(O.sel [4,1,0] (by decide))⟩ ?_
  clear hm;rintro⟨⟨v14,v15⟩,a13⟩ nx17 base h hm ⟨ha16,O⟩
  conv=>whnf
  apply Cs;conv=>whnf
  refine jn hm 65 [1,2,5,6,7] (fun s=>s) (fun v18 h=>(a13=none->v14=[])/\Own vars h0 [(sC g1 [nS,nS,nS,nS]),(sC g6 [((ag 4 al) r5.nodes),((ag 1 Value.string) r5.names),((ag 3 ax) r5.mems),((ag 1 i64) r5.outs)]),(a13,.cells (flatC (v14.map aC)) false)] h) (fun v18=>[(22,(.bool v18))]) (fun hm=>?_) ?_
  ·refine gX ?_
   refine br hm (fun hm=>?_) fun hm=>?_
   ·refine gX ?_
    exact jx (ltN v15 80) hm ⟨ha16,O⟩
   ·refine gX ?_
    exact jx false hm ⟨ha16,O⟩
  ·clear hm;rintro v18 base h hm ⟨ha19,O⟩
   refine gX ?_
   refine br hm (fun hm=>?_) fun hm=>?_
   ·refine gX ?_
    refine atF hm fun x21 hx21 hm=>?_;refine gH ?_
    (first|refine O.new (ai (l:=[(n8 0),(n8 0),(n8 0),(n8 0),(.bool false)]) rfl rfl rfl) fun g22 h O=>?_|refine O.bB (ai (l:=[(n8 0),(n8 0),(n8 0),(n8 0),(.bool false)]) rfl rfl rfl) fun g22 h O=>?_);refine gH ?_
    refine O.stC 5 (.head _) [(n8 x21.model),(n8 x21.node),(n8 x21.pin),(n8 x21.other),(.bool x21.one)] fun h O=>?_;refine gH ?_
    refine jn hm 65 [1,2,5,6,7,8] (fun s=>s) (fun v24 h=>(a13=none->v14=[])/\Own vars h0 [(sC g1 [nS,nS,nS,nS]),(sC g6 [((ag 4 al) r5.nodes),((ag 1 Value.string) r5.names),((ag 3 ax) r5.mems),((ag 1 i64) r5.outs)]),(a13,.cells (flatC (v14.map aC)) false),(sC g22 [(n8 v24),(n8 x21.node),(n8 x21.pin),(n8 x21.other),(.bool x21.one)])] h) (fun v24=>[]) (fun hm=>?_) ?_
    ·refine gX ?_
     refine ko hm fun hm=>?_;refine gX ?_
     refine br hm (fun hm=>?_) fun hm=>?_
     ·refine gX ?_
      refine O.stC 1 (.head _) [(n8 0),(n8 x21.node),(n8 x21.pin),(n8 x21.other),(.bool x21.one)] fun h O=>?_;refine gH ?_
      exact jx 0 hm ⟨ha19,(O.sel [1,2,3,0] (by decide))⟩
     ·refine gX ?_
      exact jx x21.model hm ⟨ha19,(O.sel [1,2,3,0] (by decide))⟩
    ·clear hm;rintro v24 base h hm ⟨ha25,O⟩
     refine gX ?_
     refine ldA (O.at (.tail _ (.tail _ (.tail _ (.head _))))) ?_;refine gH ?_
     refine ldA (O.at (.tail _ (.head _))) ?_;refine gH ?_
     refine ca (pD hm O.has) fun r27 hm=>?_;refine gH ?_
     refine fz ?_;refine gH ?_
     refine O.apL (enc:=aC) (l:=v14) (new:=([r27]:(List Flt))) 5 (.tail _ (.tail _ (.head _))) ha25 hm fun a28 h ha29 O hm=>?_;refine gX ?_
     refine aF hm fun hm=>?_;refine gH ?_
     exact jx (((v14++([r27]:(List Flt))),(v15+1)),a28) hm ⟨ha29,(O.sel [0,1,2] (by decide))⟩
   ·refine gX ?_
    exact jx (v14,a13) hm ⟨ha19,O⟩
 ·clear hm;rintro⟨v10,a9⟩ base h hm ⟨ha11,O⟩
  conv=>whnf
  apply Cs;conv=>whnf
  apply Cs;refine gH ?_
  have O:=O.aG (.cells (flatC ((([]:List Pat)).map bZ)) false)
  refine jn (σ:=(List Pat)×Option Nat) hm 65 [2,5,6] (fun s=>s.1) (fun (v32,a31) h=>(a9=none->v10=[])/\(a31=none->v32=[])/\Own vars h0 [(sC g1 [nS,nS,nS,nS]),(sC g6 [((ag 4 al) r5.nodes),((ag 1 Value.string) r5.names),((ag 3 ax) r5.mems),((ag 1 i64) r5.outs)]),(a9,.cells (flatC (v10.map aC)) false),(a31,.cells (flatC (v32.map bZ)) false)] h) (fun (v32,a31)=>[(9,(ah 2 a31 (v32.map bZ)))]) (fun hm=>?_) ?_
  ·refine gX ?_
   refine lw 65 [1,2,5,6] (σ:=((List Pat)×Nat)×Option Nat) (fun s=>s.1) (fun ((v37,v38),a36) h=>(a9=none->v10=[])/\(a36=none->v37=[])/\Own vars h0 [(sC g1 [nS,nS,nS,nS]),(sC g6 [((ag 4 al) r5.nodes),((ag 1 Value.string) r5.names),((ag 3 ax) r5.mems),((ag 1 i64) r5.outs)]),(a9,.cells (flatC (v10.map aC)) false),(a36,.cells (flatC (v37.map bZ)) false)] h) (fun ((v37,v38),a36)=>[(9,(ah 2 a36 (v37.map bZ))),(10,(i64 v38))]) ((([]:List Pat),0),none) hm ⟨ha11,(fun _=>rfl),(O.sel [1,2,3,0] (by decide))⟩ ?_
   clear hm;rintro⟨⟨v37,v38⟩,a36⟩ nx41 base h hm ⟨ha39,ha40,O⟩
   conv=>whnf
   apply Cs;conv=>whnf
   refine jn hm 65 [1,2,5,6,9,10] (fun s=>s) (fun v42 h=>(a9=none->v10=[])/\(a36=none->v37=[])/\Own vars h0 [(sC g1 [nS,nS,nS,nS]),(sC g6 [((ag 4 al) r5.nodes),((ag 1 Value.string) r5.names),((ag 3 ax) r5.mems),((ag 1 i64) r5.outs)]),(a9,.cells (flatC (v10.map aC)) false),(a36,.cells (flatC (v37.map bZ)) false)] h) (fun v42=>[(49,(.bool v42))]) (fun hm=>?_) ?_
   ·refine gX ?_
    refine br hm (fun hm=>?_) fun hm=>?_
    ·refine gX ?_
     exact jx (ltN v38 100) hm ⟨ha39,ha40,O⟩
    ·refine gX ?_
     exact jx false hm ⟨ha39,ha40,O⟩
   ·clear hm;rintro v42 base h hm ⟨ha43,ha44,O⟩
    refine gX ?_
    refine br hm (fun hm=>?_) fun hm=>?_
    ·refine gX ?_
     refine dF ?_
     refine gX ?_
     refine atF hm fun x46 hx46 hm=>?_;refine gH ?_
     refine dF ?_
     refine gX ?_
     refine ldA (O.at (.tail _ (.head _))) ?_;refine gH ?_
     first|refine⟨.inr (.inr (bg rfl (O.at (.tail _ (.head _))) rfl rfl (lbE rfl) rfl)),?_⟩|refine⟨.inr (.inl (by kernel_rfl)),?_⟩
     refine gX ?_
     refine ca (pz hm O.has) fun r47 hm=>?_;refine gH ?_
     (first|refine⟨.inr (.inr (ae rfl (O.at (.head _)) rfl rfl)),?_⟩|refine⟨.inr (.inr (ae rfl (O.at (.tail _ (.head _))) rfl rfl)),?_⟩|refine⟨.inr (.inr (ae rfl (O.at (.tail _ (.tail _ (.head _)))) rfl rfl)),?_⟩|refine⟨.inr (.inr (ae rfl (O.at (.tail _ (.tail _ (.tail _ (.head _))))) rfl rfl)),?_⟩|refine⟨.inr (.inr (ae rfl (O.at (.tail _ (.tail _ (.tail _ (.tail _ (.head _)))))) rfl rfl)),?_⟩|refine⟨.inr (.inr (ae rfl (O.at (.tail _ (.tail _ (.tail _ (.tail _ (.tail _ (.head _))))))) rfl rfl)),?_⟩|refine⟨.inr (.inr (ae rfl (O.at (.tail _ (.tail _ (.tail _ (.tail _ (.tail _ (.tail _ (.head _)))))))) rfl rfl)),?_⟩|refine⟨.inl (Ext.refl _),?_⟩|refine⟨.inr (.inr rfl),?_⟩|refine⟨.inr (by kernel_rfl),?_⟩|refine⟨.inl (by kernel_rfl),?_⟩|refine id ?_);refine gH ?_
     refine O.bE (l:=([r47]:(List Pat))) (enc:=bZ) (s:=2) (z:=(.agg ⟨[nS,nS]⟩)) rfl rfl (by kernel_rfl) (by kernel_rfl) rfl rfl rfl rfl (fun _=>rfl) fun g48 h O=>?_;refine gH ?_
     refine O.bQ (enc:=bZ) (l:=v37) (new:=([r47]:(List Pat))) (s:=2) (b:=48) (.tail _ (.tail _ (.tail _ (.tail _ (.head _))))) ha44 rfl rfl rfl rfl rfl rfl rfl rfl (YOk.own (O.at (.head _)) rfl (fun _=>rfl) rfl) (fun _=>rfl) (fun _=>rfl) (by decide) hm.1 fun a50 h ha51 O=>?_;refine gH ?_
     (first|refine⟨.inr (.inr (ae rfl (O.at (.head _)) rfl rfl)),?_⟩|refine⟨.inr (.inr (ae rfl (O.at (.tail _ (.head _))) rfl rfl)),?_⟩|refine⟨.inr (.inr (ae rfl (O.at (.tail _ (.tail _ (.head _)))) rfl rfl)),?_⟩|refine⟨.inr (.inr (ae rfl (O.at (.tail _ (.tail _ (.tail _ (.head _))))) rfl rfl)),?_⟩|refine⟨.inr (.inr (ae rfl (O.at (.tail _ (.tail _ (.tail _ (.tail _ (.head _)))))) rfl rfl)),?_⟩|refine⟨.inr (.inr (ae rfl (O.at (.tail _ (.tail _ (.tail _ (.tail _ (.tail _ (.head _))))))) rfl rfl)),?_⟩|refine⟨.inr (.inr (ae rfl (O.at (.tail _ (.tail _ (.tail _ (.tail _ (.tail _ (.tail _ (.head _)))))))) rfl rfl)),?_⟩|refine⟨.inl (Ext.refl _),?_⟩|refine⟨.inr (.inr rfl),?_⟩|refine⟨.inr (by kernel_rfl),?_⟩|refine⟨.inl (by kernel_rfl),?_⟩|refine id ?_);refine gH ?_
     replace hm:=hm.2
     refine gX ?_
     refine aF hm fun hm=>?_;refine gH ?_
     exact jx (((v37++([r47]:(List Pat))),(v38+1)),a50) hm ⟨ha43,ha51,(O.sel [1,2,3,4] (by decide))⟩
    ·refine gX ?_
     exact jx (v37,a36) hm ⟨ha43,ha44,O⟩
  ·clear hm;rintro⟨v32,a31⟩ base h hm ⟨ha33,ha34,O⟩
   refine gX ?_
   refine ldA (O.at (.tail _ (.head _))) ?_;refine gH ?_
   refine O.stC 4 (.head _) [((ag 4 al) r5.nodes),((ag 1 Value.string) r5.names),((ag 3 ax) r5.mems),((ag 1 i64) r5.outs)] fun h O=>?_;refine gX ?_
   refine⟨_,aD rfl rfl (O.at (.head _)) rfl rfl (lbE rfl) rfl,?_⟩;conv=>whnf
   exact⟨(r5,v10,v32),hm,O.ext,fun h2 F=>VLe.tup (LLe.cons (VLe.refl _ _) (LLe.cons (O.eY F (Nat.le_refl _) (.tail _ (.tail _ (.head _))) ha33 (fun _=>rfl)) (LLe.cons (O.eY F (Nat.le_refl _) (.tail _ (.tail _ (.tail _ (.head _)))) ha34 (fun _=>rfl)) (LLe.nil _))))⟩
def bc:Nat->Circ->Nat->Nat->(Bool->Prop)->Prop
 |0,_,_,_,_=>False
 |fu+1,p0,p1,p2,K=>((eqN p1 p2)=true->K true)/\((eqN p1 p2)=false->∃ x1,p0.nodes[p1]?=some x1/\((eqN x1.kind 14)=true->K false)/\((eqN x1.kind 14)=false->an (α:=Unit) (fun k2=>av (S:=Nat) (fun v3 nx4=>∃ x5,p0.nodes[p1]?=some x5/\((ltN v3 x5.ins.length)=true->∃ x6,p0.nodes[p1]?=some x6/\∃ x7,x6.ins[v3]?=some x7/\bc fu p0 x7 p2 (fun r8=>(r8=true->K true)/\(r8=false->v3+1<2 ^ 63/\nx4 (v3+1))))/\((ltN v3 x5.ins.length)=false->k2 ())) 0) (fun _=>K false)))
def bR (p0:Circ) (p1:Nat) (p2:Nat) (K:Bool->Prop):Prop:=∃ n,bc n p0 p1 p2 K
theorem gO:∀ (n:Nat) {p0:Circ}{p1:Nat}{p2:Nat}{K:Bool->Prop} (_:bc n p0 p1 p2 K) {h0:Heap} (_:HasB vars h0),∃ r,K r/\CallD Tryz.prog NG 21 ⟨[aA p0,i64 p1,i64 p2]⟩ h0 (Value.bool r) h0:=by
 intro n
 induction n with
 | zero=>intro p0 p1 p2 K hm;exact False.elim hm
 | succ fu ih =>
  intro p0 p1 p2 K hm h0 hB
  unfold bc at hm
  refine fw Tryz.func21 hB (enc:=Value.bool) (fun r=>PureV.flat rfl) fun O=>?_;conv=>whnf
  refine gX ?_
  refine fz ?_;refine gX ?_
  refine br hm (fun hm=>?_) fun hm=>?_
  ·refine gX ?_
   exact fe hm O
  ·refine gX ?_
   refine atF hm fun x1 hx1 hm=>?_;refine gX ?_
   refine br hm (fun hm=>?_) fun hm=>?_
   ·refine gX ?_
    exact fe hm O
   ·apply Cs;conv=>whnf
    refine jn hm 41 [] (fun s=>s) (fun _ h=>Own vars h0 [] h) (fun _=>[]) (fun hm=>?_) ?_
    ·refine gX ?_
     refine lw 41 [1,2,3] (σ:=Nat) (fun s=>s) (fun v3 h=>Own vars h0 [] h) (fun v3=>[(7,(i64 v3))]) 0 hm O ?_
     clear hm;rintro v3 nx4 base h hm O
     refine gX ?_
     refine atF hm fun x5 hx5 hm=>?_;refine gX ?_
     refine br hm (fun hm=>?_) fun hm=>?_
     ·refine gX ?_
      refine dF ?_
      refine gX ?_
      refine dF ?_
      refine gX ?_
      refine atF hm fun x6 hx6 hm=>?_;refine gH ?_
      refine dF ?_
      refine gX ?_
      refine atF hm fun x7 hx7 hm=>?_;refine gH ?_
      refine ca (ih hm O.has) fun r8 hm=>?_;refine gH ?_
      (first|refine⟨.inr (.inr (ae rfl (O.at (.head _)) rfl rfl)),?_⟩|refine⟨.inr (.inr (ae rfl (O.at (.tail _ (.head _))) rfl rfl)),?_⟩|refine⟨.inr (.inr (ae rfl (O.at (.tail _ (.tail _ (.head _)))) rfl rfl)),?_⟩|refine⟨.inr (.inr (ae rfl (O.at (.tail _ (.tail _ (.tail _ (.head _))))) rfl rfl)),?_⟩|refine⟨.inr (.inr (ae rfl (O.at (.tail _ (.tail _ (.tail _ (.tail _ (.head _)))))) rfl rfl)),?_⟩|refine⟨.inr (.inr (ae rfl (O.at (.tail _ (.tail _ (.tail _ (.tail _ (.tail _ (.head _))))))) rfl rfl)),?_⟩|refine⟨.inr (.inr (ae rfl (O.at (.tail _ (.tail _ (.tail _ (.tail _ (.tail _ (.tail _ (.head _)))))))) rfl rfl)),?_⟩|refine⟨.inl (Ext.refl _),?_⟩|refine⟨.inr (.inr rfl),?_⟩|refine⟨.inr (by kernel_rfl),?_⟩|refine⟨.inl (by kernel_rfl),?_⟩|refine id ?_);refine gH ?_
      refine gX ?_
      refine br hm (fun hm=>?_) fun hm=>?_
      ·refine gX ?_
       exact fe hm O
      ·refine gX ?_
       refine aF hm fun hm=>?_;refine gH ?_
       exact jx (v3+1) hm O
     ·refine gX ?_
      exact jx () hm O
    ·clear hm;rintro _ base h hm O
     refine gX ?_
     exact fe hm O
theorem dI {p0:Circ}{p1:Nat}{p2:Nat}{K:Bool->Prop} (hm:bR p0 p1 p2 K) {h0:Heap} (hB:HasB vars h0):∃ r,K r/\CallD Tryz.prog NG 21 ⟨[aA p0,i64 p1,i64 p2]⟩ h0 (Value.bool r) h0:=by
 obtain⟨n,hm⟩:=hm
 exact gO n hm hB
def bp (p0:CaseD) (p1:Nat) (K:Bool->Prop):Prop :=
 (min p0.f.length 20)<=p0.f.length/\(min p0.p.length 40)<=p0.p.length/\cn (⟨(⟨p0.c.inp,p0.c.dffs,p0.c.data0,p0.c.data1,p0.c.bus,p0.c.mem,p0.c.port0,p0.c.port1,p0.c.port2,p0.c.port3,p0.c.gates,p0.c.outs⟩:CData),(p0.f.take (min p0.f.length 20)),(p0.p.take (min p0.p.length 40))⟩:CaseD) (fun r3=>((eqN r3.2.1.length 0)=true->bh  (fun r6=>K r6))/\((eqN r3.2.1.length 0)=false->p1<256/\0<r3.2.1.length/\∃ x7,r3.2.1[(p1%r3.2.1.length)]?=some x7/\dv r3.1 x7 r3.2.2 (fun r10=>ck r3.1 r10.1 (fun r11=>an (α:=Bool) (fun k13=>((neN r10.2 0)=true->k13 true)/\((neN r10.2 0)=false->((neN r11.2 0)=true->k13 true)/\((neN r11.2 0)=false->k13 (neN r11.1.length r11.1.length)))) (fun v12=>(v12=true->K false)/\(v12=false->aH r3.1 (fun r14=>an (α:=Nat) (fun k16=>av (S:=(Nat×Nat)) (fun (v17,v18) nx19=>((ltN v18 r3.1.nodes.length)=true->an (α:=Nat) (fun k21=>an (α:=Bool) (fun k23=>av (S:=(Bool×Nat)) (fun (v24,v25) nx26=>((ltN v25 r10.1.length)=true->an (α:=Bool) (fun k28=>∃ x29,r10.1[v25]?=some x29/\(x29.next=true->∃ x30,r10.1[v25]?=some x30/\((!ltI x30.index (Int.ofNat r14.length))=true->K false)/\((!ltI x30.index (Int.ofNat r14.length))=false->∃ x31,r10.1[v25]?=some x31/\∃ j33:Nat,x31.index=Int.ofNat j33/\∃ x32,r14[j33]?=some x32/\(v24=true->((eqN x32 v18)=true->k28 true)/\((eqN x32 v18)=false->∃ x34,r3.1.nodes[x32]?=some x34/\∃ x35,x34.ins[0]?=some x35/\bR r3.1 x35 v18 (fun r36=>k28 r36)))/\(v24=false->k28 false)))/\(x29.next=false->∃ x37,r10.1[v25]?=some x37/\((!ltI x37.index (Int.ofNat r3.1.outs.length))=true->K false)/\((!ltI x37.index (Int.ofNat r3.1.outs.length))=false->(v24=true->∃ x38,r10.1[v25]?=some x38/\∃ j40:Nat,x38.index=Int.ofNat j40/\∃ x39,r3.1.outs[j40]?=some x39/\bR r3.1 x39 v18 (fun r41=>k28 r41))/\(v24=false->k28 false)))) (fun v27=>v25+1<2 ^ 63/\nx26 (v27,(v25+1))))/\((ltN v25 r10.1.length)=false->k23 v24)) (true,0)) (fun v22=>an (α:=Bool) (fun k43=>((eqN x7.model 0)=true->((eqN x7.line.node v18)=true->k43 (!v22))/\((eqN x7.line.node v18)=false->k43 false))/\((eqN x7.model 0)=false->k43 false)) (fun v42=>(v42=true->K false)/\(v42=false->(v22=true->an (α:=Bool) (fun k45=>((!ltN v17 r11.1.length)=true->k45 true)/\((!ltN v17 r11.1.length)=false->∃ x46,r11.1[v17]?=some x46/\k45 (neN x46 v18))) (fun v44=>(v44=true->K false)/\(v44=false->v17+1<2 ^ 63/\k21 (v17+1))))/\(v22=false->k21 v17))))) (fun v20=>v18+1<2 ^ 63/\nx19 (v20,(v18+1))))/\((ltN v18 r3.1.nodes.length)=false->k16 v17)) (0,0)) (fun v15=>((eqN v15 r11.1.length)=true->bh  (fun r47=>K r47))/\((eqN v15 r11.1.length)=false->K false)))))))))
theorem fV {p0:CaseD}{p1:Nat}{K:Bool->Prop} (hm:bp p0 p1 K) {h0:Heap} (hB:HasB vars h0):∃ r,K r/\CallD Tryz.prog NG 7 ⟨[pJ p0,n8 p1]⟩ h0 (Value.bool r) h0:=by
 unfold bp at hm
 refine fw Tryz.func7 hB (enc:=Value.bool) (fun r=>PureV.flat rfl) fun O=>?_;conv=>whnf
 refine gX ?_
 (first|refine O.new (lH rfl) fun g1 h O=>?_|refine O.bB (lH rfl) fun g1 h O=>?_);refine gH ?_
 refine gX ?_
 refine⟨_,AN (a:=p0.f.length) (b:=20) rfl rfl,?_⟩;refine gH ?_
 refine B6 (s:=5) (enc:=wO) (l:=p0.f) (k:=(min p0.f.length 20)) rfl rfl rfl rfl hm.1 ?_;refine gH ?_
 replace hm:=hm.2
 refine O.stC 1 (.head _) [(n8 p0.c.inp),(n8 p0.c.dffs),(n8 p0.c.data0),(n8 p0.c.data1),(.bool p0.c.bus),(.bool p0.c.mem),(n8 p0.c.port0),(n8 p0.c.port1),(n8 p0.c.port2),(n8 p0.c.port3),((ag 4 rZ) p0.c.gates),((ag 1 n8) p0.c.outs),((ag 5 wO) (p0.f.take (min p0.f.length 20))),((ag 2 wA) p0.p)] fun h O=>?_;refine gX ?_
 refine⟨_,AN (a:=p0.p.length) (b:=40) rfl rfl,?_⟩;refine gH ?_
 refine B6 (s:=2) (enc:=wA) (l:=p0.p) (k:=(min p0.p.length 40)) rfl rfl rfl rfl hm.1 ?_;refine gH ?_
 replace hm:=hm.2
 refine O.stC 1 (.head _) [(n8 p0.c.inp),(n8 p0.c.dffs),(n8 p0.c.data0),(n8 p0.c.data1),(.bool p0.c.bus),(.bool p0.c.mem),(n8 p0.c.port0),(n8 p0.c.port1),(n8 p0.c.port2),(n8 p0.c.port3),((ag 4 rZ) p0.c.gates),((ag 1 n8) p0.c.outs),((ag 5 wO) (p0.f.take (min p0.f.length 20))),((ag 2 wA) (p0.p.take (min p0.p.length 40)))] fun h O=>?_;refine gX ?_
 refine ldA (O.at (.head _)) ?_;refine gH ?_
 refine ca (mz hm O.has) fun r3 hm=>?_;refine gH ?_
 (first|refine O.new (ai (l:=[nS,nS,nS,nS]) rfl rfl rfl) fun g4 h O=>?_|refine O.bB (ai (l:=[nS,nS,nS,nS]) rfl rfl rfl) fun g4 h O=>?_);refine gH ?_
 refine O.stC 4 (.head _) [((ag 4 al) r3.1.nodes),((ag 1 Value.string) r3.1.names),((ag 3 ax) r3.1.mems),((ag 1 i64) r3.1.outs)] fun h O=>?_;refine gX ?_
 refine br hm (fun hm=>?_) fun hm=>?_
 ·refine gX ?_
  refine ca (eA hm O.has) fun r6 hm=>?_;refine gX ?_
  exact fe hm O
 ·refine gX ?_
  refine aCv hm wI8 fun hm=>?_;refine gH ?_
  refine ko hm fun hm=>?_;refine gH ?_
  refine atF hm fun x7 hx7 hm=>?_;refine gH ?_
  (first|refine O.new (ai (l:=[(n8 0),(i64 0),(i64 0),(n8 0),(i64 0)]) rfl rfl rfl) fun g8 h O=>?_|refine O.bB (ai (l:=[(n8 0),(i64 0),(i64 0),(n8 0),(i64 0)]) rfl rfl rfl) fun g8 h O=>?_);refine gH ?_
  refine O.stC 5 (.head _) [(n8 x7.model),(i64 x7.line.node),(z64 x7.line.pin),(n8 x7.value),(i64 x7.other)] fun h O=>?_;refine gX ?_
  refine ldA (O.at (.tail _ (.head _))) ?_;refine gH ?_
  refine ldA (O.at (.head _)) ?_;refine gH ?_
  refine ca (na hm O.has) fun r10 hm=>?_;refine gX ?_
  refine ldA (O.at (.tail _ (.head _))) ?_;refine gH ?_
  refine ca (iw hm O.has) fun r11 hm=>?_;refine gH ?_
  apply Cs;conv=>whnf
  refine jn hm 194 [5,8,9,11] (fun s=>s) (fun v12 h=>Own vars h0 [(sC g4 [((ag 4 al) r3.1.nodes),((ag 1 Value.string) r3.1.names),((ag 3 ax) r3.1.mems),((ag 1 i64) r3.1.outs)]),(sC g8 [(n8 x7.model),(i64 x7.line.node),(z64 x7.line.pin),(n8 x7.value),(i64 x7.other)])] h) (fun v12=>[(78,(.bool v12))]) (fun hm=>?_) ?_
  ·refine gX ?_
   refine br hm (fun hm=>?_) fun hm=>?_
   ·refine gX ?_
    refine bt ?_;refine gH ?_
    exact jx true hm (O.sel [1,0] (by decide))
   ·refine gX ?_
    refine br hm (fun hm=>?_) fun hm=>?_
    ·refine gX ?_
     exact jx true hm (O.sel [1,0] (by decide))
    ·refine gX ?_
     refine cpC ?_;refine gH ?_
     refine lmC ?_;refine gH ?_
     exact jx (neN r11.1.length r11.1.length) hm (O.sel [1,0] (by decide))
  ·clear hm;rintro v12 base h hm O
   refine gX ?_
   refine br hm (fun hm=>?_) fun hm=>?_
   ·refine gX ?_
    exact fe hm O
   ·refine gX ?_
    refine ldA (O.at (.head _)) ?_;refine gH ?_
    refine ca (aR hm O.has) fun r14 hm=>?_;refine gH ?_
    apply Cs;conv=>whnf
    apply Cs;refine gH ?_
    refine jn hm 194 [11] (fun s=>s) (fun v15 h=>Own vars h0 [] h) (fun v15=>[(14,(i64 v15))]) (fun hm=>?_) ?_
    ·refine gX ?_
     refine lw 194 [5,8,9,11,13] (σ:=(Nat×Nat)) (fun s=>s) (fun (v17,v18) h=>Own vars h0 [(sC g4 [((ag 4 al) r3.1.nodes),((ag 1 Value.string) r3.1.names),((ag 3 ax) r3.1.mems),((ag 1 i64) r3.1.outs)]),(sC g8 [(n8 x7.model),(i64 x7.line.node),(z64 x7.line.pin),(n8 x7.value),(i64 x7.other)])] h) (fun (v17,v18)=>[(14,(i64 v17)),(15,(i64 v18))]) (0,0) hm O ?_
     clear hm;rintro⟨v17,v18⟩ nx19 base h hm O
     refine gX ?_
     refine br hm (fun hm=>?_) fun hm=>?_
     ·apply Cs;conv=>whnf
      refine jn hm 194 [5,8,9,11,13,15] (fun s=>s) (fun v20 h=>Own vars h0 [(sC g4 [((ag 4 al) r3.1.nodes),((ag 1 Value.string) r3.1.names),((ag 3 ax) r3.1.mems),((ag 1 i64) r3.1.outs)]),(sC g8 [(n8 x7.model),(i64 x7.line.node),(z64 x7.line.pin),(n8 x7.value),(i64 x7.other)])] h) (fun v20=>[(14,(i64 v20))]) (fun hm=>?_) ?_
      ·apply Cs;conv=>whnf
       apply Cs;conv=>whnf
       apply Cs;refine gH ?_
       refine jn hm 194 [5,8,9,11,13,14,15] (fun s=>s) (fun v22 h=>Own vars h0 [(sC g4 [((ag 4 al) r3.1.nodes),((ag 1 Value.string) r3.1.names),((ag 3 ax) r3.1.mems),((ag 1 i64) r3.1.outs)]),(sC g8 [(n8 x7.model),(i64 x7.line.node),(z64 x7.line.pin),(n8 x7.value),(i64 x7.other)])] h) (fun v22=>[(16,(.bool v22))]) (fun hm=>?_) ?_
       ·refine gX ?_
        refine lw 194 [5,8,9,11,13,14,15] (σ:=(Bool×Nat)) (fun s=>s) (fun (v24,v25) h=>Own vars h0 [(sC g4 [((ag 4 al) r3.1.nodes),((ag 1 Value.string) r3.1.names),((ag 3 ax) r3.1.mems),((ag 1 i64) r3.1.outs)]),(sC g8 [(n8 x7.model),(i64 x7.line.node),(z64 x7.line.pin),(n8 x7.value),(i64 x7.other)])] h) (fun (v24,v25)=>[(16,(.bool v24)),(17,(i64 v25))]) (true,0) hm O ?_
        clear hm;rintro⟨v24,v25⟩ nx26 base h hm O
        refine gX ?_
        refine br hm (fun hm=>?_) fun hm=>?_
        ·apply Cs;conv=>whnf
         refine jn hm 194 [5,8,9,11,13,14,15,17] (fun s=>s) (fun v27 h=>Own vars h0 [(sC g4 [((ag 4 al) r3.1.nodes),((ag 1 Value.string) r3.1.names),((ag 3 ax) r3.1.mems),((ag 1 i64) r3.1.outs)]),(sC g8 [(n8 x7.model),(i64 x7.line.node),(z64 x7.line.pin),(n8 x7.value),(i64 x7.other)])] h) (fun v27=>[(16,(.bool v27))]) (fun hm=>?_) ?_
         ·refine gX ?_
          refine atF hm fun x29 hx29 hm=>?_;refine gX ?_
          refine br hm (fun hm=>?_) fun hm=>?_
          ·refine gX ?_
           refine atF hm fun x30 hx30 hm=>?_;refine gX ?_
           refine br hm (fun hm=>?_) fun hm=>?_
           ·refine gX ?_
            exact fe hm O
           ·refine gX ?_
            refine atF hm fun x31 hx31 hm=>?_;refine gH ?_
            obtain⟨j33,hz,x32,hx32,hm⟩:=hm
            refine sj (s:=1) (enc:=i64) (j:=j33) rfl rfl rfl (congrArg (Value.int .i64) hz) hx32 ?_;refine gX ?_
            refine br hm (fun hm=>?_) fun hm=>?_
            ·refine gX ?_
             refine br hm (fun hm=>?_) fun hm=>?_
             ·refine gX ?_
              exact jx true hm O
             ·refine gX ?_
              refine ldA (O.at (.head _)) ?_;refine gH ?_
              first|refine⟨.inr (.inr (bg rfl (O.at (.head _)) rfl rfl (lbE rfl) rfl)),?_⟩|refine⟨.inr (.inl (by kernel_rfl)),?_⟩
              refine gX ?_
              first|refine⟨.inr (.inr (ae rfl (O.at (.head _)) rfl rfl)),?_⟩|refine⟨.inr (.inl (by kernel_rfl)),?_⟩
              refine gX ?_
              refine atF hm fun x34 hx34 hm=>?_;refine gH ?_
              refine dF ?_
              refine gX ?_
              refine atF hm fun x35 hx35 hm=>?_;refine gH ?_
              refine ca (dI hm O.has) fun r36 hm=>?_;refine gH ?_
              (first|refine⟨.inr (.inr (ae rfl (O.at (.head _)) rfl rfl)),?_⟩|refine⟨.inr (.inr (ae rfl (O.at (.tail _ (.head _))) rfl rfl)),?_⟩|refine⟨.inr (.inr (ae rfl (O.at (.tail _ (.tail _ (.head _)))) rfl rfl)),?_⟩|refine⟨.inr (.inr (ae rfl (O.at (.tail _ (.tail _ (.tail _ (.head _))))) rfl rfl)),?_⟩|refine⟨.inr (.inr (ae rfl (O.at (.tail _ (.tail _ (.tail _ (.tail _ (.head _)))))) rfl rfl)),?_⟩|refine⟨.inr (.inr (ae rfl (O.at (.tail _ (.tail _ (.tail _ (.tail _ (.tail _ (.head _))))))) rfl rfl)),?_⟩|refine⟨.inr (.inr (ae rfl (O.at (.tail _ (.tail _ (.tail _ (.tail _ (.tail _ (.tail _ (.head _)))))))) rfl rfl)),?_⟩|refine⟨.inl (Ext.refl _),?_⟩|refine⟨.inr (.inr rfl),?_⟩|refine⟨.inr (by kernel_rfl),?_⟩|refine⟨.inl (by kernel_rfl),?_⟩|refine id ?_);refine gH ?_
              exact jx r36 hm O
            ·refine gX ?_
             exact jx false hm O
          ·refine gX ?_
           refine atF hm fun x37 hx37 hm=>?_;refine gH ?_
           first|refine⟨.inr (.inr (ae rfl (O.at (.head _)) rfl rfl)),?_⟩|refine⟨.inr (.inl (by kernel_rfl)),?_⟩
           refine gX ?_
           refine br hm (fun hm=>?_) fun hm=>?_
           ·refine gX ?_
            exact fe hm O
           ·refine gX ?_
            refine br hm (fun hm=>?_) fun hm=>?_
            ·refine gX ?_
             refine ldA (O.at (.head _)) ?_;refine gH ?_
             first|refine⟨.inr (.inr (bg rfl (O.at (.head _)) rfl rfl (lbE rfl) rfl)),?_⟩|refine⟨.inr (.inl (by kernel_rfl)),?_⟩
             refine gX ?_
             first|refine⟨.inr (.inr (ae rfl (O.at (.head _)) rfl rfl)),?_⟩|refine⟨.inr (.inl (by kernel_rfl)),?_⟩
             refine gX ?_
             refine atF hm fun x38 hx38 hm=>?_;refine gH ?_
             obtain⟨j40,hz,x39,hx39,hm⟩:=hm
             refine sj (s:=1) (enc:=i64) (j:=j40) rfl rfl rfl (congrArg (Value.int .i64) hz) hx39 ?_;refine gH ?_
             refine ca (dI hm O.has) fun r41 hm=>?_;refine gH ?_
             (first|refine⟨.inr (.inr (ae rfl (O.at (.head _)) rfl rfl)),?_⟩|refine⟨.inr (.inr (ae rfl (O.at (.tail _ (.head _))) rfl rfl)),?_⟩|refine⟨.inr (.inr (ae rfl (O.at (.tail _ (.tail _ (.head _)))) rfl rfl)),?_⟩|refine⟨.inr (.inr (ae rfl (O.at (.tail _ (.tail _ (.tail _ (.head _))))) rfl rfl)),?_⟩|refine⟨.inr (.inr (ae rfl (O.at (.tail _ (.tail _ (.tail _ (.tail _ (.head _)))))) rfl rfl)),?_⟩|refine⟨.inr (.inr (ae rfl (O.at (.tail _ (.tail _ (.tail _ (.tail _ (.tail _ (.head _))))))) rfl rfl)),?_⟩|refine⟨.inr (.inr (ae rfl (O.at (.tail _ (.tail _ (.tail _ (.tail _ (.tail _ (.tail _ (.head _)))))))) rfl rfl)),?_⟩|refine⟨.inl (Ext.refl _),?_⟩|refine⟨.inr (.inr rfl),?_⟩|refine⟨.inr (by kernel_rfl),?_⟩|refine⟨.inl (by kernel_rfl),?_⟩|refine id ?_);refine gH ?_
             exact jx r41 hm O
            ·refine gX ?_
             exact jx false hm O
         ·clear hm;rintro v27 base h hm O
          refine gX ?_
          refine aF hm fun hm=>?_;refine gH ?_
          exact jx (v27,(v25+1)) hm O
        ·refine gX ?_
         exact jx v24 hm O
       ·clear hm;rintro v22 base h hm O
        conv=>whnf
        apply Cs;conv=>whnf
        refine jn hm 194 [5,8,9,11,13,14,15,16] (fun s=>s) (fun v42 h=>Own vars h0 [(sC g4 [((ag 4 al) r3.1.nodes),((ag 1 Value.string) r3.1.names),((ag 3 ax) r3.1.mems),((ag 1 i64) r3.1.outs)]),(sC g8 [(n8 x7.model),(i64 x7.line.node),(z64 x7.line.pin),(n8 x7.value),(i64 x7.other)])] h) (fun v42=>[(171,(.bool v42))]) (fun hm=>?_) ?_
        ·refine gX ?_
         refine br hm (fun hm=>?_) fun hm=>?_
         ·refine gX ?_
          refine br hm (fun hm=>?_) fun hm=>?_
          ·refine gX ?_
           exact jx (!v22) hm O
          ·refine gX ?_
           exact jx false hm O
         ·refine gX ?_
          refine bf ?_;refine gH ?_
          exact jx false hm O
        ·clear hm;rintro v42 base h hm O
         refine gX ?_
         refine br hm (fun hm=>?_) fun hm=>?_
         ·refine gX ?_
          exact fe hm O
         ·refine gX ?_
          refine br hm (fun hm=>?_) fun hm=>?_
          ·apply Cs;conv=>whnf
           refine jn hm 194 [5,8,9,11,13,14,15] (fun s=>s) (fun v44 h=>Own vars h0 [(sC g4 [((ag 4 al) r3.1.nodes),((ag 1 Value.string) r3.1.names),((ag 3 ax) r3.1.mems),((ag 1 i64) r3.1.outs)]),(sC g8 [(n8 x7.model),(i64 x7.line.node),(z64 x7.line.pin),(n8 x7.value),(i64 x7.other)])] h) (fun v44=>[(184,(.bool v44))]) (fun hm=>?_) ?_
           ·refine gX ?_
            refine lmC ?_;refine gH ?_
            refine br hm (fun hm=>?_) fun hm=>?_
            ·refine gX ?_
             exact jx true hm O
            ·refine gX ?_
             refine atC hm fun x46 hx46 hm=>?_;refine gH ?_
             exact jx (neN x46 v18) hm O
           ·clear hm;rintro v44 base h hm O
            refine gX ?_
            refine br hm (fun hm=>?_) fun hm=>?_
            ·refine gX ?_
             exact fe hm O
            ·refine gX ?_
             refine aF hm fun hm=>?_;refine gH ?_
             exact jx (v17+1) hm O
          ·refine gX ?_
           exact jx v17 hm O
      ·clear hm;rintro v20 base h hm O
       refine gX ?_
       refine aF hm fun hm=>?_;refine gH ?_
       exact jx (v20,(v18+1)) hm O
     ·refine gX ?_
      exact jx v17 hm (O.sel [] (by decide))
    ·clear hm;rintro v15 base h hm O
     refine gX ?_
     refine lmC ?_;refine gH ?_
     refine br hm (fun hm=>?_) fun hm=>?_
     ·refine gX ?_
      refine ca (eA hm O.has) fun r47 hm=>?_;refine gX ?_
      exact fe hm O
     ·refine gX ?_
      exact fe hm O
theorem pH {c:Circ}{a b:Nat} (h:a≠b) (hk:∀ x,c.nodes[a]?=some x->x.kind≠14->∀ m∈x.ins,¬ Dep c m b):¬ Dep c a b:=by
 intro d
 cases d with
 |refl=>exact h rfl
 |step hx h14 hm d=>exact hk _ hx h14 _ hm d
theorem qX {c:Circ} (C:Cir c) {b:Nat}:∀ (fu a d:Nat),a<fu->a<c.nodes.length->d+a<=c.nodes.length->∀ {K:Bool->Prop},(Dep c a b->K true)->(¬ Dep c a b->K false)->bb fu c a b d K
 |0,a,d,h,_,_,_,_,_=>absurd h (Nat.not_lt_zero _)
 |fu+1,a,d,hf,ha,hd,K,h1,h2=>by
  have hlen:=C.len
  obtain⟨x,hx⟩:=au ha
  unfold bb
  refine⟨fun e=>h1 (by rw[bo.1 e];exact .refl _),fun e=>?_⟩
  have hne:a≠b:=bM.1 e
  refine bx (a:=eqN x.kind 14) (fun g=>⟨fun q=>absurd (aJ.1 q) (by omega),fun _=>⟨x,hx,g⟩⟩) ⟨fun e2=>h2 (pH hne fun y hy h14=>?_),fun e2=>?_⟩
  ·rw[hx] at hy;cases hy;exact absurd (bo.1 e2) h14
  have h14:x.kind≠14:=bM.1 e2
  have few:=(C.good.node a x hx).few
  refine ay (fun i=>i<=x.ins.length/\∀ m∈x.ins.take i,¬ Dep c m b) (fun i=>x.ins.length-i) (fun _=>∀ m∈x.ins,¬ Dep c m b) ?_ ⟨Nat.zero_le _,fun m q=>by cases q⟩ fun _ q=>h2 (pH hne fun y hy _=>by rw[hx] at hy;cases hy;exact q)
  rintro k i nx ⟨hi,hv⟩ hnx hk
  refine⟨x,hx,fun q=>?_,fun q=>hk _ ?_⟩
  ·have q:i<x.ins.length:=aJ.1 q
   obtain⟨m,hm⟩:=au q
   have hma:=nE C hx h14 (List.mem_of_getElem? hm)
   refine⟨x,hx,m,hm,by omega,qX C fu m (d+1) (by omega) (by omega) (by omega) (fun dm=>⟨fun _=>h1 (.step hx h14 (List.mem_of_getElem? hm) dm),fun q=>by cases q⟩) fun dm=>⟨(fun q=>by cases q),fun _=>⟨by omega,hnx _ ⟨q,fun w hw=>?_⟩ (by omega)⟩⟩⟩
   rw[kl hm,bm] at hw
   rcases hw with hw|rfl
   ·exact hv w hw
   ·exact dm
  ·have q:x.ins.length<=i:=aU.1 q
   rw[List.take_of_length_le q] at hv
   exact hv
theorem uv {c:Circ} (C:Cir c) {a b:Nat} (ha:a<c.nodes.length) {K:Bool->Prop} (h1:Dep c a b->K true) (h2:¬ Dep c a b->K false):bP c a b 0 K:=⟨a+1,qX C (a+1) a 0 (by omega) ha (by omega) h1 h2⟩
theorem rA {c:Circ} (C:Cir c) {b:Nat}:∀ (fu a:Nat),a<fu->a<c.nodes.length->∀ {K:Bool->Prop},(Dep c a b->K true)->(¬ Dep c a b->K false)->bc fu c a b K
 |0,a,h,_,_,_,_=>absurd h (Nat.not_lt_zero _)
 |fu+1,a,hf,ha,K,h1,h2=>by
  have hlen:=C.len
  obtain⟨x,hx⟩:=au ha
  unfold bc
  refine⟨fun e=>h1 (by rw[bo.1 e];exact .refl _),fun e=>⟨x,hx,fun e2=>h2 (pH (bM.1 e) fun y hy h14=>?_),fun e2=>?_⟩⟩
  ·rw[hx] at hy;cases hy;exact absurd (bo.1 e2) h14
  have hne:a≠b:=bM.1 e
  have h14:x.kind≠14:=bM.1 e2
  have few:=(C.good.node a x hx).few
  refine ay (fun i=>i<=x.ins.length/\∀ m∈x.ins.take i,¬ Dep c m b) (fun i=>x.ins.length-i) (fun _=>∀ m∈x.ins,¬ Dep c m b) ?_ ⟨Nat.zero_le _,fun m q=>by cases q⟩ fun _ q=>h2 (pH hne fun y hy _=>by rw[hx] at hy;cases hy;exact q)
  rintro k i nx ⟨hi,hv⟩ hnx hk
  refine⟨x,hx,fun q=>?_,fun q=>hk _ ?_⟩
  ·have q:i<x.ins.length:=aJ.1 q
   obtain⟨m,hm⟩:=au q
   have hma:=nE C hx h14 (List.mem_of_getElem? hm)
   refine⟨x,hx,m,hm,rA C fu m (by omega) (by omega) (fun dm=>⟨fun _=>h1 (.step hx h14 (List.mem_of_getElem? hm) dm),fun q=>by cases q⟩) fun dm=>⟨(fun q=>by cases q),fun _=>⟨by omega,hnx _ ⟨q,fun w hw=>?_⟩ (by omega)⟩⟩⟩
   rw[kl hm,bm] at hw
   rcases hw with hw|rfl
   ·exact hv w hw
   ·exact dm
  ·have q:x.ins.length<=i:=aU.1 q
   rw[List.take_of_length_le q] at hv
   exact hv
theorem ux {c:Circ} (C:Cir c) {a b:Nat} (ha:a<c.nodes.length) {K:Bool->Prop} (h1:Dep c a b->K true) (h2:¬ Dep c a b->K false):bR c a b K:=⟨a+1,rA C (a+1) a (by omega) ha h1 h2⟩
def cntB (l:List Bool):Nat:=l.countP id
theorem tz (l:List Bool):cntB l<=l.length:=List.countP_le_length
theorem vp:∀ {l:List Bool}{i:Nat},l[i]?=some false->cntB (l.set i true)=cntB l+1
 |[],i,h=>by cases h
 |a::l,0,h=>by
  cases h
  show List.countP id (true::l)=List.countP id (false::l)+1
  rw[List.countP_cons,List.countP_cons]
  rfl
 |a::l,i+1,h=>by
  have ih:=vp (l:=l) (i:=i) h
  show List.countP id (a::l.set i true)=_
  unfold cntB at ih ⊢
  rw[List.countP_cons,List.countP_cons,ih]
  omega
theorem BN {ds:List Bool}{b:Nat} (h:mk1 ds b):b<ds.length:=by
 unfold mk1 at h
 refine Decidable.byContradiction fun q=>?_
 rw[List.getD,List.getElem?_eq_none (by omega)] at h
 cases h
structure ConeI (c:Circ) (a:Nat) (ds:List Bool) (todo:List Nat):Prop where
 len:ds.length=c.nodes.length
 dep:∀ b,mk1 ds b->Dep c a b
 mem:∀ t∈todo,mk1 ds t
 top:mk1 ds a
 cl:∀ z x,mk1 ds z->z ∉ todo->c.nodes[z]?=some x->x.kind≠14->∀ m∈x.ins,mk1 ds m
 sz:todo.length+2*(c.nodes.length-cntB ds)<=2*c.nodes.length+1
theorem ConeI.done {c:Circ}{a:Nat}{ds:List Bool} (I:ConeI c a ds []) (b:Nat):mk1 ds b↔Dep c a b:=by
 refine⟨I.dep b,fun d=>?_⟩
 have key:∀ z b,Dep c z b->mk1 ds z->mk1 ds b:=by
  intro z b d
  induction d with
  |refl=>exact id
  |step hx hk hm _ ih=>exact fun hz=>ih (I.cl _ _ hz (by simp) hx hk _ hm)
 exact key a b d I.top
theorem yA {l:List Nat}{z:Nat} (h:l[l.length-1]?=some z):l=l.take (l.length-1)++[z]:=by
 have:=kl h
 rw[List.take_of_length_le (by omega)] at this
 exact this
theorem vf {c:Circ} (C:Cir c) {a:Nat} (ha:a<c.nodes.length) {K:List Bool->Prop} (h:∀ es:List Bool,es.length=c.nodes.length->(∀ b,mk1 es b↔Dep c a b)->K es):cY c a K:=by
 have hlen:=C.len
 unfold cY
 have hr:(List.replicate c.nodes.length (false:Bool))[a]?=some false:=by rw[List.getElem?_replicate,if_pos ha]
 have hno:∀ z,¬ mk1 (List.replicate c.nodes.length false) z:=by
  intro z
  unfold mk1
  rw[List.getD,List.getElem?_replicate]
  split <;> simp
 refine⟨by omega,by omega,ha,_,hr,?_⟩
 refine ay (fun s=>ConeI c a s.1 s.2) (fun s=>s.2.length+2*(c.nodes.length-cntB s.1)) (fun es=>es.length=c.nodes.length/\∀ b,mk1 es b↔Dep c a b) ?_ ?_ fun es q=>⟨q.1.symm,h es q.1 q.2⟩
 ·rintro k ⟨ds,todo⟩ nx I hnx hk
  dsimp only at I
  refine⟨fun q=>?_,fun q=>hk _ ⟨I.len,?_⟩⟩
  ·have q:0<todo.length:=aJ.1 q
   have hsz:=I.sz
   obtain⟨z,hz⟩:=au (show todo.length-1<todo.length by omega)
   have es:=yA hz
   have hzm:mk1 ds z:=I.mem z (List.mem_of_getElem? hz)
   have hzn:z<c.nodes.length:=by have:=BN hzm;have:=I.len;omega
   obtain⟨x,hx⟩:=au hzn
   have htl:(todo.take (todo.length-1)).length=todo.length-1:=by rw[List.length_take];omega
   have hin:∀ w,w∈todo->w∈todo.take (todo.length-1)\/w=z:=fun w m=>by rw[es] at m;exact bm.1 m
   have hsub:∀ w∈todo.take (todo.length-1),w∈todo:=fun w m=>List.mem_of_mem_take m
   have hlt:=tz ds
   have hl:=I.len
   refine⟨by omega,by omega,z,hz,by omega,by omega,by omega,x,hx,fun e=>hnx _ ⟨I.len,I.dep,fun t m=>I.mem t (hsub t m),I.top,fun w y hw hn hy h14=>?_,by dsimp only;rw[htl];omega⟩ (by dsimp only;rw[htl];omega),fun e=>⟨x,hx,?_⟩⟩
   ·refine I.cl w y hw (fun m=>?_) hy h14
    rcases hin w m with m|rfl
    ·exact hn m
    ·rw[hx] at hy;cases hy;exact absurd (bo.1 e) h14
   have h14:x.kind≠14:=bM.1 e
   have few:=(C.good.node z x hx).few
   refine bn (fun s=>s.2.2<=x.ins.length/\s.1.length=c.nodes.length/\(∀ b,mk1 s.1 b->Dep c a b)/\(∀ b,mk1 ds b->mk1 s.1 b)/\(∀ b,mk1 s.1 b->mk1 ds b\/b∈s.2.1)/\(∀ t∈s.2.1,mk1 s.1 t)/\(∀ t∈todo.take (todo.length-1),t∈s.2.1)/\(∀ m∈x.ins.take s.2.2,mk1 s.1 m)/\s.2.1.length+2*(c.nodes.length-cntB s.1)<=todo.length-1+2*(c.nodes.length-cntB ds)) (fun s=>x.ins.length-s.2.2) ?_
    ⟨Nat.zero_le _,I.len,I.dep,fun _=>id,fun _=>.inl,fun t m=>I.mem t (hsub t m),fun _=>id,(fun m q=>by cases q),by dsimp only;rw[htl];omega⟩
   rintro⟨es,td,i⟩ nx2 ⟨hi,g1,g2,g3,g4,g5,g6,g7,g8⟩ hnx2
   dsimp only at hi g1 g2 g3 g4 g5 g6 g7 g8
   refine⟨fun q2=>?_,fun q2=>hnx _ ⟨g1,g2,g5,g3 _ I.top,fun w y hw hn hy hy14=>?_,by dsimp only;omega⟩ (by dsimp only;omega)⟩
   ·have q2:i<x.ins.length:=aJ.1 q2
    obtain⟨m,hm⟩:=au q2
    have hmn:m<c.nodes.length:=(C.good.node z x hx).ins m (List.mem_of_getElem? hm)
    obtain⟨v,hv⟩:=au (show m<es.length by omega)
    have hc1:=tz es
    refine eK (fun s=>s.1.length=c.nodes.length/\(∀ b,mk1 s.1 b->Dep c a b)/\(∀ b,mk1 ds b->mk1 s.1 b)/\(∀ b,mk1 s.1 b->mk1 ds b\/b∈s.2)/\(∀ t∈s.2,mk1 s.1 t)/\(∀ t∈todo.take (todo.length-1),t∈s.2)/\(∀ m∈x.ins.take (i+1),mk1 s.1 m)/\s.2.length+2*(c.nodes.length-cntB s.1)<=todo.length-1+2*(c.nodes.length-cntB ds)) (fun k3 hk3=>⟨m,hm,hmn,v,hv,fun e3=>?_,fun e3=>hk3 _ ?_⟩) fun s hs=>⟨by omega,hnx2 _ ⟨q2,hs⟩ (by dsimp only;omega)⟩
    ·have hvf:v=false:=by cases v <;> first|rfl|cases e3
     subst hvf
     have hset:=fun b=>pN (ds:=es) (a:=m) (b:=b) (by omega)
     have hcs:=vp hv
     have hc2:=tz (es.set m true)
     rw[List.length_set] at hc2
     refine⟨by rw[List.length_singleton];omega,hmn,_,hv,hk3 _ ⟨by rw[List.length_set];exact g1,fun b q3=>?_,fun b q3=>(hset b).2 (.inr (g3 b q3)),fun b q3=>?_,fun t q3=>?_,fun t q3=>List.mem_append_left _ (g6 t q3),fun w hw=>?_,?_⟩⟩
     ·rcases (hset b).1 q3 with rfl|q3
      ·exact (I.dep z hzm).trans (.step hx h14 (List.mem_of_getElem? hm) (.refl _))
      ·exact g2 b q3
     ·rcases (hset b).1 q3 with rfl|q3
      ·exact .inr (bm.2 (.inr rfl))
      ·exact (g4 b q3).imp id fun q=>bm.2 (.inl q)
     ·rcases bm.1 q3 with q3|rfl
      ·exact (hset t).2 (.inr (g5 t q3))
      ·exact (hset t).2 (.inl rfl)
     ·rw[kl hm,bm] at hw
      rcases hw with hw|rfl
      ·exact (hset w).2 (.inr (g7 w hw))
      ·exact (hset w).2 (.inl rfl)
     ·dsimp only
      rw[List.length_append,List.length_singleton]
      omega
    ·have hvt:v=true:=by cases v <;> first|rfl|cases e3
     subst hvt
     refine⟨g1,g2,g3,g4,g5,g6,fun w hw=>?_,g8⟩
     rw[kl hm,bm] at hw
     rcases hw with hw|rfl
     ·exact g7 w hw
     ·exact (nN hv).2 rfl
   ·have q2:x.ins.length<=i:=aU.1 q2
    rw[List.take_of_length_le q2] at g7
    by_cases ez:w=z
    ·subst ez
     rw[hx] at hy
     cases hy
     exact g7
    ·intro m hm
     have hwd:mk1 ds w:=(g4 w hw).resolve_right hn
     refine g3 m (I.cl w y hwd (fun q3=>?_) hy hy14 m hm)
     rcases hin w q3 with q3|q3
     ·exact hn (g6 w q3)
     ·exact ez q3
  ·have q:todo.length<=0:=aU.1 q
   have:todo=[]:=List.length_eq_zero_iff.1 (by omega)
   subst this
   exact I.done
 ·have hset:=fun b=>pN (ds:=List.replicate c.nodes.length false) (a:=a) (b:=b) (by rw[List.length_replicate];exact ha)
  refine⟨by simp,fun b q=>?_,fun t m=>?_,(hset a).2 (.inl rfl),fun w y hw hn=>?_,?_⟩
  ·rcases (hset b).1 q with rfl|q
   ·exact .refl _
   ·exact absurd q (hno b)
  ·rw[List.mem_singleton] at m
   exact (hset t).2 (.inl m)
  ·rcases (hset w).1 hw with rfl|q
   ·exact absurd (List.mem_singleton.2 rfl) hn
   ·exact absurd q (hno w)
  ·dsimp only
   rw[List.length_singleton]
   omega
structure BrOk (c:Circ) (f:Flt):Prop where
 model:f.model=2\/f.model=3
 value:f.value<=1
 val3:f.model=3->f.value=0
 pin:f.line.pin=Int.negSucc 0
 node:f.line.node<c.nodes.length
 other:f.other<c.nodes.length
 ne:f.line.node≠f.other
 le:f.model=2->f.line.node<=f.other
 kind1:kd c f.line.node≠12
 kind2:kd c f.other≠12
 dep1:¬ Dep c f.line.node f.other
 dep2:¬ Dep c f.other f.line.node
theorem yW {first:(Bool->Prop)->Prop}{rest:Bool->Prop} (h1:∀ k:Bool->Prop,(∀ b,b=false->k b)->first k) (h2:rest false):an first rest:=h1 rest fun _ e=>e ▸ h2
theorem zk (a:Int):neZ a a=false:=by rw[vM];simp
theorem xx {c:Circ}{f:Flt} (_:f.model=2\/f.model=3) (hv3:f.model=3->f.value=0) (hp:f.line.pin=Int.negSucc 0) (ho:f.other<c.nodes.length) (hle:f.model=2->f.line.node<=f.other) {rest:Bool->Prop} (h:rest (eqN f.line.node f.other)) :
  an (α:=Bool) (fun k2=>((neZ f.line.pin (Int.negSucc 0))=true->k2 true)/\((neZ f.line.pin (Int.negSucc 0))=false->((ltN f.other 0)=true->k2 true)/\((ltN f.other 0)=false->((!ltN f.other c.nodes.length)=true->k2 true)/\((!ltN f.other c.nodes.length)=false->((eqN f.line.node f.other)=true->k2 true)/\((eqN f.line.node f.other)=false->((eqN f.model 2)=true->((ltN f.other f.line.node)=true->k2 true)/\((ltN f.other f.line.node)=false->((eqN f.model 3)=true->k2 (neN f.value 0))/\((eqN f.model 3)=false->k2 false)))/\((eqN f.model 2)=false->((eqN f.model 3)=true->k2 (neN f.value 0))/\((eqN f.model 3)=false->k2 false))))))) rest:=by
 refine dD ?_
 rw[hp,zk]
 refine⟨(fun q=>by cases q),fun _=>⟨fun q=>absurd (aJ.1 q) (Nat.not_lt_zero _),fun _=>⟨fun q=>absurd (jz.1 q) (by omega),fun _=>⟨fun q=>by rw[q] at h;exact h,fun q=>?_⟩⟩⟩⟩
 rw[q] at h
 refine⟨fun q2=>?_,fun q2=>⟨fun q3=>?_,fun _=>h⟩⟩
 ·have q2:=bo.1 q2
  exact⟨fun q3=>absurd (aJ.1 q3) (by have:=hle q2;omega),fun _=>⟨fun q3=>absurd (bo.1 q3) (by omega),fun _=>h⟩⟩
 ·rw[hv3 (bo.1 q3)]
  exact apT (pv.2 rfl) h
theorem vT {c:Circ} (C:Cir c) {f:Flt} (hm:f.model=2\/f.model=3) (hv:f.value<=1) (hv3:f.model=3->f.value=0) (hp:f.line.pin=Int.negSucc 0) (hn:f.line.node<c.nodes.length) (ho:f.other<c.nodes.length) (hle:f.model=2->f.line.node<=f.other) {K:Nat->Prop} (h:∀ r,(r=0->BrOk c f)->K r):bF c f K:=by
 obtain⟨x,hx⟩:=au hn
 obtain⟨y,hy⟩:=au ho
 unfold bF
 refine bx (a:=false) (fun g=>⟨fun q=>absurd (aJ.1 q) (by omega),fun _=>⟨fun q=>absurd (aJ.1 q) (by omega),fun _=>⟨fun q=>absurd (aJ.1 q) (Nat.not_lt_zero _),fun _=>⟨fun q=>absurd (jz.1 q) (by omega),fun _=>⟨fun q=>?_,fun _=>⟨x,hx,?_⟩⟩⟩⟩⟩⟩) ⟨(fun e=>by cases e),fun _=>⟨fun q=>absurd (aJ.1 q) (by omega),fun _=>?_⟩⟩
 ·rw[hp] at q
  exact absurd (lY.1 q) (Int.lt_irrefl _)
 ·have:ltI f.line.pin (Int.ofNat x.ins.length)=true:=lY.2 (by rw[hp];simp only[Int.ofNat_eq_natCast];omega)
  exact apT (a := !ltI f.line.pin (Int.ofNat x.ins.length)) (b:=false) (by rw[this];rfl) g
 refine xx hm hv3 hp ho hle ⟨fun _=>h 1 (fun e=>by cases e),fun q1=>?_⟩
 refine eK (fun b=>b=false->x.kind≠12/\y.kind≠12) (fun k hk=>⟨x,hx,fun _=>hk _ (fun e=>by cases e),fun q2=>⟨y,hy,hk _ fun q3=>⟨bM.1 q2,bM.1 q3⟩⟩⟩) fun b hb=>⟨fun _=>h 7 (fun e=>by cases e),fun eb=>?_⟩
 refine eK (fun b=>b=false->¬ Dep c f.line.node f.other/\¬ Dep c f.other f.line.node) (fun k hk=>uv C hn (fun _=>⟨fun _=>hk _ (fun e=>by cases e),fun e=>by cases e⟩) fun d1=>⟨(fun e=>by cases e),fun _=>uv C ho (fun _=>hk _ (fun e=>by cases e)) fun d2=>hk _ fun _=>⟨d1,d2⟩⟩) fun b2 hb2=>⟨fun _=>h 6 (fun e=>by cases e),fun eb2=>h 0 fun _=>?_⟩
 have hk:=hb eb
 have hd:=hb2 eb2
 exact⟨hm,hv,hv3,hp,hn,ho,bM.1 q1,hle,by rw[gL hx];exact hk.1,by rw[gL hy];exact hk.2,hd.1,hd.2⟩
theorem xe {ds:List Bool}{b:Nat} (hb:b<ds.length) (h:¬ mk1 ds b):ds[b]?=some false:=by
 obtain⟨v,hv⟩:=au hb
 have:=nN hv
 cases v with
 |true=>exact absurd (this.2 rfl) h
 |false=>exact hv
theorem xY {c:Circ} (C:Cir c) {f:Flt} (F:BrOk c f) {K:Nat->Prop} (h:K 0):db c f K:=by
 obtain⟨x,hx⟩:=au F.node
 obtain⟨y,hy⟩:=au F.other
 unfold db
 refine xx F.model F.val3 F.pin F.other F.le ⟨fun q=>absurd (bo.1 q) F.ne,fun _=>?_⟩
 refine bx (a:=false) (fun g=>⟨x,hx,fun q=>absurd (bo.1 q) (by have:=F.kind1;rw[gL hx] at this;exact this),fun _=>⟨y,hy,?_⟩⟩) ⟨(fun e=>by cases e),fun _=>?_⟩
 ·have e:eqN y.kind 12=false:=bM.2 (by have:=F.kind2;rw[gL hy] at this;exact this)
  rw[e];exact g
 refine bx (a:=false) (fun g=>vf C F.node fun es l1 h1=>⟨false,xe (by rw[l1];exact F.other) (fun q=>F.dep1 ((h1 _).1 q)),(fun e=>by cases e),fun _=>vf C F.other fun es2 l2 h2=>⟨false,xe (by rw[l2];exact F.node) (fun q=>F.dep2 ((h2 _).1 q)),g⟩⟩) ⟨(fun e=>by cases e),fun _=>h⟩
theorem qH {c:Circ} (C:Cir c) {f:Flt} (F:BrOk c f) {K:Nat->Prop} (h:K 0):faults_Check_wp c f K:=by
 have hm:=F.model
 have hv:=F.value
 unfold faults_Check_wp
 refine qg C ⟨(fun q=>absurd rfl (eL.1 q)),fun _=>?_⟩
 refine bx (a:=false) (fun G=>⟨fun q=>absurd (aJ.1 q) (by omega),fun _=>⟨fun q=>absurd (aJ.1 q) (by omega),fun _=>wW F.node (by rw[F.pin];omega) (by rw[F.pin];simp only[Int.ofNat_eq_natCast];omega) G⟩⟩) ⟨(fun q=>by cases q),fun _=>⟨fun _=>xY C F h,fun q=>absurd (ma.1 q) (by omega)⟩⟩
def ntB (c:Circ) (p:Pat) (f:Flt):Nat->Nat->Nat :=
 if f.model=2 then fun m v=>if m=f.line.node\/m=f.other then jI (if f.value=1 then 7 else 5) [(gE c p).getD f.line.node 0,(gE c p).getD f.other 0] else v
 else oq f.line.node ((gE c p).getD f.other 0)
def tC (c:Circ) (p:Pat) (f:Flt):List Nat:=sol c p (ntB c p f) idP
theorem nW {c:Circ} (C:Cir c) {p:Pat} (hp:PatOk c p) (f:Flt):∀ i v,v<=3->ntB c p f i v<=3:=by
 have hV:=((jk C hp nP fb:Sol c p idN idP (gE c p))).le
 unfold ntB
 split
 ·intro i v hv
  dsimp only
  split
  ·refine ui _ fun w m=>?_
   simp only[List.mem_cons,List.not_mem_nil,or_false] at m
   rcases m with rfl|rfl
   ·exact hV _
   ·exact hV _
  ·exact hv
 ·exact pR (hV _)
theorem evalW {v a b:Nat}{K:Nat->Prop} (h:K (jI (if v=1 then 7 else 5) [a,b])):aS (if v=1 then 7 else 5) [a,b] K:=by
 by_cases e:v=1
 ·rw[if_pos e] at h ⊢
  exact qd (by decide) (by decide) (by decide:Arity 7 2) (by simp) h
 ·rw[if_neg e] at h ⊢
  exact qd (by decide) (by decide) (by decide:Arity 5 2) (by simp) h
theorem zA {c:Circ} (C:Cir c) {p:Pat} (hp:PatOk c p) {f:Flt} (F:BrOk c f) {K:Rsp×Rsp×List Nat×Nat->Prop} (h:K (fW c idP (gE c p),fW c idP (tC c p f),tC c p f,0)):cv c f p K:=by
 have hlen:=C.len
 have hmm:=F.model
 have hvl:=F.value
 have V:=(jk C hp nP fb:Sol c p idN idP (gE c p))
 unfold cv
 refine qH C F ⟨(fun q=>absurd rfl (eL.1 q)),fun _=>⟨fun q=>absurd (bo.1 q) (by omega),fun _=>sX C hp ⟨(fun q=>absurd rfl (eL.1 q)),fun _=>⟨fun q=>?_,fun q=>⟨fun q2=>⟨fun _=>?_,fun q3=>?_⟩,fun q2=>?_⟩⟩⟩⟩⟩
 ·have hm2:f.model=2:=bo.1 q
  have en:ntB c p f=fun m v=>if m=f.line.node\/m=f.other then jI (if f.value=1 then 7 else 5) [(gE c p).getD f.line.node 0,(gE c p).getD f.other 0] else v:=if_pos hm2
  have eW:tC c p f=sol c p (ntB c p f) idP:=rfl
  refine bx (a:=if f.value=1 then 7 else 5) (fun G=>⟨fun e=>by rw[if_pos (bo.1 e)] at G;exact G,fun e=>by rw[if_neg (bM.1 e)] at G;exact G⟩) ?_
  refine⟨_,fa V.len F.node,_,fa V.len F.other,evalW ?_⟩
  refine nr C hp fun t o ho T0=>?_
  refine ay (fun s=>s.2<=o.length/\RunS c p (ntB c p f) idP o s.1 s.2) (fun s=>o.length-s.2) (fun t=>t=tC c p f) ?_ ⟨Nat.zero_le _,T0 _ _⟩ ?_
  ·rintro k ⟨t,i⟩ nx ⟨hi,T⟩ hnx hk
   dsimp only at hi T
   have hol:o.length=c.nodes.length:=by have:=ho.perm.length_eq;simpa using this
   refine⟨fun q=>?_,fun q=>hk t ?_⟩
   ·have q:i<o.length:=aJ.1 q
    obtain⟨m,hm⟩:=au q
    have hmn:m<c.nodes.length:=List.mem_range.1 (ho.perm.mem_iff.1 (List.mem_of_getElem? hm))
    obtain⟨x,hx⟩:=au hmn
    have st:=T.step ho hm hx (nW C hp f _ _ (jE hp fb T.le _ _))
    refine⟨m,hm,pM C T hm hx (rdA C T.len hx) fun t1 e1 e2 e3=>⟨hmn,_,fa e1 hmn,fun q2=>⟨hmn,_,fa e1 hmn,by omega,hnx _ ⟨q,?_⟩ (by dsimp only;omega)⟩,fun q2=>⟨fun q3=>⟨hmn,_,fa e1 hmn,by omega,hnx _ ⟨q,?_⟩ (by dsimp only;omega)⟩,fun q3=>⟨hmn,_,fa e1 hmn,by omega,hnx _ ⟨q,?_⟩ (by dsimp only;omega)⟩⟩⟩⟩
    ·dsimp only
     have e9:∀ v,ntB c p f m v=jI (if f.value=1 then 7 else 5) [(gE c p).getD f.line.node 0,(gE c p).getD f.other 0]:=fun v=>by rw[en];exact if_pos (show m=f.line.node\/m=f.other from .inl (bo.1 q2))
     rw[e9] at st
     rw[e3];exact st
    ·dsimp only
     have e9:∀ v,ntB c p f m v=jI (if f.value=1 then 7 else 5) [(gE c p).getD f.line.node 0,(gE c p).getD f.other 0]:=fun v=>by rw[en];exact if_pos (show m=f.line.node\/m=f.other from .inr (bo.1 q3))
     rw[e9] at st
     rw[e3];exact st
    ·dsimp only
     have e9:∀ v,ntB c p f m v=v:=fun v=>by rw[en];exact if_neg (fun e=>e.elim (bM.1 q2) (bM.1 q3))
     rw[e9] at st
     rw[e3,e2];exact st
   ·have q:o.length<=i:=aU.1 q
    have e:i=o.length:=by omega
    subst e
    rw[eW]
    exact (T.sol ho).is C hp (nW C hp f) fb
  ·rintro _ rfl
   have S:=jk C hp (nW C hp f) fb
   refine pK C S.len ?_
   refine nC C (pn:=idP) fb S.le (fun m x hx=>rdA C S.len hx) ?_
   exact⟨S.len.symm,h⟩
 ·have hm3:f.model≠2:=by have:=bo.1 q2;omega
  have en:ntB c p f=oq f.line.node ((gE c p).getD f.other 0):=if_neg hm3
  have eW:tC c p f=sol c p (ntB c p f) idP:=rfl
  refine nr C hp fun t o ho T0=>?_
  refine ay (fun s=>s.2<=o.length/\RunS c p (ntB c p f) idP o s.1 s.2) (fun s=>o.length-s.2) (fun t=>t=tC c p f) ?_ ⟨Nat.zero_le _,T0 _ _⟩ ?_
  ·rintro k ⟨t,i⟩ nx ⟨hi,T⟩ hnx hk
   dsimp only at hi T
   have hol:o.length=c.nodes.length:=by have:=ho.perm.length_eq;simpa using this
   refine⟨fun q=>?_,fun q=>hk t ?_⟩
   ·have q:i<o.length:=aJ.1 q
    obtain⟨m,hm⟩:=au q
    have hmn:m<c.nodes.length:=List.mem_range.1 (ho.perm.mem_iff.1 (List.mem_of_getElem? hm))
    obtain⟨x,hx⟩:=au hmn
    have st:=T.step ho hm hx (nW C hp f _ _ (jE hp fb T.le _ _))
    refine⟨m,hm,pM C T hm hx (rdA C T.len hx) fun t1 e1 e2 e3=>⟨hmn,_,fa e1 hmn,fun q2=>⟨_,fa V.len F.other,hmn,_,fa e1 hmn,by omega,hnx _ ⟨q,?_⟩ (by dsimp only;omega)⟩,fun q2=>⟨hmn,_,fa e1 hmn,by omega,hnx _ ⟨q,?_⟩ (by dsimp only;omega)⟩⟩⟩
    ·dsimp only
     rw[en] at st ⊢
     unfold oq at st
     rw[if_pos (bo.1 q2)] at st
     rw[e3];exact st
    ·dsimp only
     rw[en] at st ⊢
     unfold oq at st
     rw[if_neg (bM.1 q2)] at st
     rw[e3,e2];exact st
   ·have q:o.length<=i:=aU.1 q
    have e:i=o.length:=by omega
    subst e
    rw[eW]
    exact (T.sol ho).is C hp (nW C hp f) fb
  ·rintro _ rfl
   have S:=jk C hp (nW C hp f) fb
   refine pK C S.len ?_
   refine nC C (pn:=idP) fb S.le (fun m x hx=>rdA C S.len hx) ?_
   exact⟨S.len.symm,h⟩
 ·rw[F.pin] at q3
  cases q3
 ·exact absurd (bM.1 q2) (by have:=bM.1 q;omega)
theorem xH {c:Circ} (C:Cir c) {f:Flt} (F:BrOk c f):FltOk c f fun p=>fW c idP (tC c p f) :=
 ⟨fun h=>qH C F h,(fun e=>by have:=F.model;omega),fun hp _ h=>zA C hp F (h _)⟩
def sl (x:CData):CData:=⟨x.inp,x.dffs,x.data0,x.data1,x.bus,false,x.port0,x.port1,x.port2,x.port3,x.gates,x.outs⟩
theorem yH {x:CData} (h:CB x):CB (sl x):=⟨h.inp,h.dffs,h.data0,h.data1,h.port0,h.port1,h.port2,h.port3,h.gates,h.outs⟩
theorem xN {x:CData} (hx:CB x) {K:Circ->Prop} (h:K (gF (sl x))):bS x K:=wv (yH hx) h
theorem yS {x:CData} (hm:x.mem=false):Cir (gF x):=by
 refine⟨yE hm,by rw[lz,hm];rfl,fun i y h=>?_⟩
 rcases xL hm h with⟨_,rfl⟩|⟨_,_,d,_,rfl⟩|⟨h1,_,g,hg⟩
 ·show (0:Nat)<=14;decide
 ·show (14:Nat)<=14;decide
 ·have hi:=ak h
  have hn:(gF x).nodes.length=(cp x).length:=je _
  have q:=uy x.bus g (ks:=((cp x).take i).map Node.kind) (by rw[List.length_map,List.length_take];omega)
  rw[<- hg] at q
  have:=q.kind
  omega
theorem AB (c:Circ) (k:Nat):ofN c [k]=(List.range c.nodes.length).filter fun i=>decide (kd c i=k):=by
 unfold ofN kd
 congr 1
 funext i
 rw[Bool.eq_iff_iff]
 simp
theorem vD {l:List Nat}{n most:Nat} (hn:n<=16) (h0:0<most) (h4:most<=4) {K:List Nat->Prop} (h:∀ r:List Nat,r.length=n->(∀ v∈r,v<=3)->K r):bk l n most K:=by
 unfold bk
 refine ay (fun s=>s.2<=n/\s.1.length=s.2/\∀ v∈s.1,v<=3) (fun s=>n-s.2) (fun r=>r.length=n/\∀ v∈r,v<=3) ?_ ⟨Nat.zero_le _,rfl,(fun v m=>by cases m)⟩ fun r q=>h r q.1 q.2
 rintro k ⟨r,i⟩ nx ⟨hi,hr,hv⟩ hnx hk
 dsimp only at hi hr hv
 refine⟨fun q=>?_,fun q=>hk _ ⟨?_,hv⟩⟩
 ·have q:i<n:=aJ.1 q
  refine eK (fun r2=>r2.length=i+1/\∀ v∈r2,v<=3) (fun k2 hk2=>⟨fun _=>⟨by rw[List.length_singleton];omega,hk2 _ ⟨by simp[hr],fun v m=>?_⟩⟩,fun e=>?_⟩) fun r2 h2=>⟨by omega,hnx _ ⟨q,h2⟩ (by dsimp only;omega)⟩
  ·rcases bm.1 m with m|rfl
   ·exact hv v m
   ·decide
  ·have hp:0<l.length:=Nat.pos_of_ne_zero (bM.1 e)
   obtain⟨x,hx⟩:=au (Nat.mod_lt i hp)
   refine⟨hp,x,hx,h0,by rw[List.length_singleton];omega,hk2 _ ⟨by simp[hr],fun v m=>?_⟩⟩
   rcases bm.1 m with m|rfl
   ·exact hv v m
   ·have:=Nat.mod_lt x h0;omega
 ·have q:n<=i:=aU.1 q
  omega
theorem qh {c:Circ} (hc:c.nodes.length<=16) {k:Nat}{K:Nat->Prop} (h:K (ofN c [k]).length):bj c k K:=by
 unfold bj
 rw[AB] at h
 refine ay (fun s=>s.2<=c.nodes.length/\s.1=((List.range s.2).filter fun i=>decide (kd c i=k)).length) (fun s=>c.nodes.length-s.2) (fun r=>r=((List.range c.nodes.length).filter fun i=>decide (kd c i=k)).length) ?_ ⟨Nat.zero_le _,rfl⟩ (fun _ e=>e ▸ h)
 rintro kk ⟨m,i⟩ nx ⟨hi,hm⟩ hnx hk
 dsimp only at hi hm
 refine⟨fun q=>?_,fun q=>hk _ ?_⟩
 ·have q:i<c.nodes.length:=aJ.1 q
  obtain⟨x,hx⟩:=au q
  have hle:m<=i:=by rw[hm];exact jM
  refine bx (a:=((List.range (i+1)).filter fun i=>decide (kd c i=k)).length) (fun g=>⟨x,hx,fun e=>⟨by omega,?_⟩,fun e=>?_⟩) ⟨by omega,hnx _ ⟨q,rfl⟩ (by dsimp only;omega)⟩
  ·rw[lW,if_pos (by rw[gL hx];exact decide_eq_true (bo.1 e)),List.length_append,<- hm] at g;exact g
  ·rw[lW,if_neg (by rw[gL hx,decide_eq_true_eq];exact bM.1 e),List.append_nil,<- hm] at g;exact g
 ·have q:c.nodes.length<=i:=aU.1 q
  have:i=c.nodes.length:=by omega
  subst this
  exact hm
theorem Bv {c:Circ} (C:Cir c) {z:PData}{K:Pat->Prop} (h:∀ p,PatOk c p->K p):eH z c K:=by
 have hlen:=C.len
 have l1:=eT c [0]
 have l2:=eT c [14]
 unfold eH
 exact qh hlen (vD (by omega) (by decide) (by decide) fun a ha va=>qh hlen (vD (by omega) (by decide) (by decide) fun b hb vb=>h _ ⟨ha,hb,va,vb⟩))
def FOk (c:Circ) (f:Flt):Prop:=StuckOk c f\/BrOk c f
def rQ (c:Circ) (f:Flt) (p:Pat):Rsp:=if f.model=0 then fW c (pnF f) (kO c p f) else fW c idP (tC c p f)
theorem FOk.ok {c:Circ} (C:Cir c) {f:Flt} (F:FOk c f):FltOk c f (rQ c f):=by
 rcases F with F|F
 ·have:=vd C F
  have e:rQ c f=fun p=>fW c (pnF f) (kO c p f):=funext fun p=>if_pos F.model
  rw[e];exact this
 ·have:=xH C F
  have e:rQ c f=fun p=>fW c idP (tC c p f):=funext fun p=>if_neg (by have:=F.model;omega)
  rw[e];exact this
theorem FOk.node {c:Circ}{f:Flt} (F:FOk c f):f.line.node<c.nodes.length:=F.elim (·.node) (·.node)
theorem yU {c:Circ} (C:Cir c) {z:FData} (hz:FB z) (h1:z.model%4≠1) {K:Flt->Prop} (h:∀ f,FOk c f->K f):eG z c K:=by
 have hlen:=C.len
 have hpos:=C.good.pos
 have hn:z.node%c.nodes.length<c.nodes.length:=Nat.mod_lt _ hpos
 have ho:z.other%c.nodes.length<c.nodes.length:=Nat.mod_lt _ hpos
 have hm4:=Nat.mod_lt z.model (show 0<4 by decide)
 unfold eG
 refine⟨fun q=>absurd (bo.1 q) (by omega),fun _=>⟨by decide,hz.node,hpos,?_⟩⟩
 refine eK (fun v=>v<=1) (fun k hk=>⟨fun _=>hk _ (by decide),fun _=>hk _ (by decide)⟩) fun v hv=>?_
 refine eK (fun s:Nat×Nat×Nat=>s.1=0/\s.2.1<c.nodes.length/\s.2.2<=1) (fun k10 hk10=>⟨fun q=>?_,fun q=>hk10 _ ⟨?_,hn,hv⟩⟩) ?_
 ·have q:2<=z.model%4:=jz.1 q
  refine⟨hz.other,hpos,?_⟩
  refine eK (fun s:Nat×Nat=>s.1<c.nodes.length/\s.2<c.nodes.length/\(z.model%4=2->s.1<=s.2)) (fun k13 hk13=>?_) ?_
  ·refine eK (fun b=>(z.model%4=2->b=ltN (z.other%c.nodes.length) (z.node%c.nodes.length))) (fun k hk=>⟨fun e=>hk _ fun _=>rfl,fun e=>hk _ fun e2=>absurd e2 (bM.1 e)⟩) fun b hb=>⟨fun e=>hk13 _ ⟨ho,hn,fun e2=>?_⟩,fun e=>hk13 _ ⟨hn,ho,fun e2=>?_⟩⟩
   ·have:=hb e2
    rw[e] at this
    exact Nat.le_of_lt (aJ.1 this.symm)
   ·have:=hb e2
    rw[e] at this
    exact aU.1 this.symm
  ·rintro⟨a,b⟩ ⟨ha,hb,hab⟩
   dsimp only at ha hb hab ⊢
   refine eK (fun w=>w<=1/\(z.model%4=3->w=0)) (fun k hk=>⟨fun e=>hk _ ⟨by decide,fun _=>rfl⟩,fun e=>hk _ ⟨hv,fun e2=>absurd e2 (bM.1 e)⟩⟩) fun w hw=>?_
   refine vT C (f:=⟨z.model%4,⟨a,Int.negSucc 0⟩,w,b⟩) (by dsimp only;omega) hw.1 hw.2 rfl ha hb hab fun r hr=>⟨fun e=>h _ (.inr (hr (bo.1 e))),fun e=>hk10 _ ⟨rfl,ha,hw.1⟩⟩
 ·have:=ma.1 q
  dsimp only
  omega
 ·rintro⟨m,a,w⟩ ⟨h0,ha,hw⟩
  dsimp only at h0 ha hw ⊢
  subst h0
  obtain⟨x,hx⟩:=au ha
  have hfew:=(C.good.node _ x hx).few
  have hmod:=Nat.mod_lt z.pin (show 0<x.ins.length+1 by omega)
  refine⟨hz.pin,x,hx,by omega,by omega,by simp only[Int.ofNat_eq_natCast];omega,by simp only[Int.ofNat_eq_natCast];omega,h _ (.inl (wC (ur.2 ⟨ha,?_⟩) hw))⟩
  dsimp only
  rw[fE hx]
  by_cases e:z.pin%(x.ins.length+1)=0
  ·left;rw[e];rfl
  ·right
   exact⟨z.pin%(x.ins.length+1)-1,by simp only[Int.ofNat_eq_natCast];omega,by omega⟩
structure CaseO (c:Circ) (l:List Flt) (tests:List Pat):Prop where
 cir:Cir c
 flt:∀ f∈l,FOk c f
 pat:∀ p∈tests,PatOk c p
theorem AF {y:CaseD} (Y:CaseB y) {K:Circ×List Flt×List Pat->Prop} (h:∀ c l tests,CaseO c l tests->l.length<=y.f.length->tests.length<=y.p.length->l.length<=80->tests.length<=100->K (c,l,tests)):cn y K:=by
 unfold cn
 refine xN Y.c ?_
 have C:=yS (x:=sl y.c) rfl
 generalize gF (sl y.c)=c at C ⊢
 refine ay (fun s=>s.2<=y.f.length/\s.2<=80/\s.1.length=s.2/\∀ f∈s.1,FOk c f) (fun s=>y.f.length-s.2) (fun l=>l.length<=y.f.length/\l.length<=80/\∀ f∈l,FOk c f) ?_ ⟨Nat.zero_le _,Nat.zero_le _,rfl,fun f m=>by cases m⟩ ?_
 ·rintro k ⟨l,i⟩ nx ⟨hi,hi2,hl,hf⟩ hnx hk
  dsimp only at hi hi2 hl hf
  refine bx (a:=decide (i<y.f.length)&&decide (i<80)) (fun G=>⟨fun q=>?_,fun q=>?_⟩) ⟨fun q=>?_,fun q=>hk l ⟨by omega,by omega,hf⟩⟩
  ·have:ltN i 80=(decide (i<y.f.length)&&decide (i<80)):=by rw[nT,decide_eq_true (aJ.1 q)];rfl
   rw[this];exact G
  ·rw[decide_eq_false (Nat.not_lt.2 (aU.1 q)),Bool.false_and] at G;exact G
  ·rw[Bool.and_eq_true,decide_eq_true_eq,decide_eq_true_eq] at q
   obtain⟨z,hz⟩:=au q.1
   have w:=Y.f z (List.mem_of_getElem? hz)
   refine⟨z,hz,eK (fun m=>m<256/\m%4≠1) (fun k2 hk2=>⟨by decide,fun _=>hk2 _ ⟨by decide,by decide⟩,fun e=>hk2 _ ⟨w.model,bM.1 e⟩⟩) fun m hm=>yU (z:=⟨m,z.node,z.pin,z.other,z.one⟩) C ⟨hm.1,w.node,w.pin,w.other⟩ hm.2 fun f F=>⟨?_,by omega,hnx _ ⟨q.1,q.2,?_,fun g hg=>?_⟩ (by dsimp only;omega)⟩⟩
   ·rw[List.length_singleton];omega
   ·dsimp only;rw[List.length_append,List.length_singleton,hl]
   ·rcases bm.1 hg with hg|rfl
    ·exact hf g hg
    ·exact F
 ·rintro l ⟨hl1,hl2,hf⟩
  refine ay (fun s=>s.2<=y.p.length/\s.2<=100/\s.1.length=s.2/\∀ p∈s.1,PatOk c p) (fun s=>y.p.length-s.2) (fun r=>r.length<=y.p.length/\r.length<=100/\∀ p∈r,PatOk c p) ?_ ⟨Nat.zero_le _,Nat.zero_le _,rfl,fun f m=>by cases m⟩ fun r q=>h c l r ⟨C,hf,q.2.2⟩ hl1 q.1 hl2 q.2.1
  rintro k ⟨r,i⟩ nx ⟨hi,hi2,hr,hp⟩ hnx hk
  dsimp only at hi hi2 hr hp
  refine bx (a:=decide (i<y.p.length)&&decide (i<100)) (fun G=>⟨fun q=>?_,fun q=>?_⟩) ⟨fun q=>?_,fun q=>hk r ⟨by omega,by omega,hp⟩⟩
  ·have:ltN i 100=(decide (i<y.p.length)&&decide (i<100)):=by rw[nT,decide_eq_true (aJ.1 q)];rfl
   rw[this];exact G
  ·rw[decide_eq_false (Nat.not_lt.2 (aU.1 q)),Bool.false_and] at G;exact G
  ·rw[Bool.and_eq_true,decide_eq_true_eq,decide_eq_true_eq] at q
   obtain⟨z,hz⟩:=au q.1
   refine⟨z,hz,Bv C fun p hp2=>⟨?_,by omega,hnx _ ⟨q.1,q.2,?_,fun g hg=>?_⟩ (by dsimp only;omega)⟩⟩
   ·rw[List.length_singleton];omega
   ·dsimp only;rw[List.length_append,List.length_singleton,hr]
   ·rcases bm.1 hg with hg|rfl
    ·exact hp g hg
    ·exact hp2
def xP (y:CaseD) (a b:Nat):CaseD:=⟨⟨y.c.inp,y.c.dffs,y.c.data0,y.c.data1,y.c.bus,y.c.mem,y.c.port0,y.c.port1,y.c.port2,y.c.port3,y.c.gates,y.c.outs⟩,y.f.take (min y.f.length a),y.p.take (min y.p.length b)⟩
theorem Bx {y:CaseD} (Y:CaseB y) (a b:Nat) {K:Circ×List Flt×List Pat->Prop} (h:∀ c l tests,CaseO c l tests->l.length<=a->tests.length<=b->l.length<=80->tests.length<=100->K (c,l,tests)):cn (xP y a b) K:=by
 refine AF (y:=xP y a b) ⟨⟨Y.c.inp,Y.c.dffs,Y.c.data0,Y.c.data1,Y.c.port0,Y.c.port1,Y.c.port2,Y.c.port3,Y.c.gates,Y.c.outs⟩,fun z m=>Y.f z (List.mem_of_mem_take m),fun z m=>Y.p z (List.mem_of_mem_take m)⟩ fun c l tests O h1 h2 h3 h4=>h c l tests O ?_ ?_ h3 h4
 ·have:(xP y a b).f.length<=a:=by unfold xP;dsimp only;rw[List.length_take];omega
  omega
 ·have:(xP y a b).p.length<=b:=by unfold xP;dsimp only;rw[List.length_take];omega
  omega
end Go.Proofs.YteceaohcjmbfbaaGreatDoor
