/-
  Pe, Pf, Pg, Q1, Lw, R1: parts of the proof.
-/
import Derived.Test.YtfhldkgelipnaaaGreatDoorLm44
namespace Go.Proofs.YtfhldkgelipnaaaGreatDoor
open Go.Abs
set_option maxRecDepth 100000
theorem gate_vc {c:Circ} (p:Pln c) (f3:Few3 c) {given:List Asg}{m:Nat}{v0 w0:List Nat}{z:Node}{K:Bool×List Nat×List Nat→Prop} (hz:c.nodes[m]?=some z) (hf:isFree z.kind=false)
  (I:CI c given (· = m) v0 w0)
  (h1:∀ v w,CI c given (fun _=>False) v w→v.count 2*1001+w.length≤v0.count 2*1001+w0.length→(∀ i,v0.getD i 0≠2→v.getD i 0=v0.getD i 0)→K (true,v,w))
  (h2:∀ v w,(∀ t,¬ CW c given t)→K (false,v,w)) :
  work_gate_wp c.nodes c.names c.mems c.outs (fanL c) c.nodes.length v0 w0 m K:=by
 have hm:=lt_of_get hz
 have hg:=p.gate hz hf
 have G:=p.good.node m z hz
 have hl3:=f3 m z hz
 have hlen:=p.good.len
 have F:GF z.kind (v0.getD m 0) (insV v0 z):=gf hg.1 hg.2 (by rw[insV_len];exact G.arity) (by rw[insV_len];exact hl3) (I.le m) (insV_le I.le z)
 have sound:∀ t,CW c given t→(gateR z.kind (v0.getD m 0) (insV v0 z)).2.2=true∧Blw (gateR z.kind (v0.getD m 0) (insV v0 z)).1 (t.getD m 0)∧∀ j,Blw ((gateR z.kind (v0.getD m 0) (insV v0 z)).2.1.getD j 0) ((insV t z).getD j 0):=by
  intro t ht
  obtain⟨k1,k2,k3⟩:=ht.cls m z hz hf
  have M:=(gate_mono (o:=v0.getD m 0) (l:=insV v0 z) hg.1 hg.2 (by rw[insV_len];exact G.arity) (by rw[insV_len];exact hl3) (ht.le m) (insV_le ht.le z) (I.snd t ht m) (by rw[insV_len,insV_len]) (fun j=>?_) k1).1
  ·exact⟨M.1,M.2.1.trans k2,fun j=>(M.2.2 j).trans (k3 j)⟩
  ·by_cases hj:j<z.ins.length
   ·obtain⟨y,hy⟩:=get_lt hj
    rw[insV_getD hy,insV_getD hy]
    exact I.snd t ht y
   ·rw[getD_out (by rw[insV_len];omega),getD_out (by rw[insV_len];omega)]
    exact .inr rfl
 unfold work_gate_wp
 refine⟨z,hz,by omega,by omega,?_⟩
 refine joinLoop (fun s=>s.2≤z.ins.length∧s.1.length=z.ins.length∧∀ j,j<s.2→s.1.getD j 0=(insV v0 z).getD j 0) (fun s=>z.ins.length-s.2) (fun a=>a=insV v0 z) ?_ ⟨Nat.zero_le _,by simp,fun j hj=>absurd hj (Nat.not_lt_zero _)⟩ ?_
 ·rintro k2 ⟨l,j⟩ nx2 ⟨hj,hl,hI2⟩ hnx2 hk2
  dsimp only at hj hl hI2
  refine⟨fun q2=>?_,fun q2=>?_⟩
  ·have q2:=lt_t.1 q2
   (try dsimp only at q2)
   obtain⟨y,hy⟩:=get_lt q2
   have hyn:=G.ins y (List.mem_of_getElem? hy)
   refine⟨y,hy,hyn,_,getN I.len hyn,q2,_,getN hl q2,by omega,hnx2 _ ⟨q2,by simpa using hl,fun j' hj'=>?_⟩ (by dsimp only;omega)⟩
   dsimp only at hj' ⊢
   rw[getD_set (by omega)]
   by_cases e:j=j'
   ·subst e;rw[if_pos rfl,insV_getD hy]
   ·rw[if_neg e];exact hI2 j' (by omega)
  ·have q2:=lt_f.1 q2
   (try dsimp only at q2)
   refine hk2 l (List.ext_getElem? fun j'=>?_)
   by_cases e:j'<z.ins.length
   ·rw[getN hl e,getN (insV_len v0 z) e,hI2 j' (by omega)]
   ·rw[List.getElem?_eq_none (by omega),List.getElem?_eq_none (by rw[insV_len];omega)]
 rintro a rfl
 refine⟨hm,_,getN I.len hm,(insV_len v0 z).symm,by omega,by rw[insV_len];omega,F.ok,?_⟩
 generalize hr:gateR z.kind (v0.getD m 0) (insV v0 z)=r at F sound ⊢
 have hle:=F.le
 rw[hr] at hle
 refine joinI ⟨fun q=>⟨fun _=>h2 _ _ fun t ht=>?_,(fun e=>by cases e)⟩,fun q=>?_⟩
 ·have:=(sound t ht).1
  rw[this] at q;cases q
 have hok:r.2.2=true:=by simpa using q
 obtain⟨le1,le2,le3⟩:=hle hok
 have S0:GS c given m v0 w0 v0 w0 True:=⟨I,Nat.le_refl _,fun _ _=>rfl,.inr ⟨rfl,trivial⟩⟩
 refine gput_vc p S0 hm le1 (fun t ht=>(sound t ht).2.1) (.inl rfl) (fun v w S=>⟨(fun e=>by cases e),fun _=>?_⟩) (fun v w hn=>⟨fun _=>h2 _ _ hn,(fun e=>by cases e)⟩)
 refine joinLoop (fun s=>s.2.2≤z.ins.length∧GS c given m v0 w0 s.1 s.2.1 ((True∧Blw r.1 (v0.getD m 0))∧∀ j,j<s.2.2→Blw (r.2.1.getD j 0) ((insV v0 z).getD j 0))) (fun s=>z.ins.length-s.2.2) (fun s=>GS c given m v0 w0 s.1 s.2 ((True∧Blw r.1 (v0.getD m 0))∧∀ j,j<z.ins.length→Blw (r.2.1.getD j 0) ((insV v0 z).getD j 0))) ?_ ⟨Nat.zero_le _,S.to fun _ d=>⟨d,fun j hj=>absurd hj (Nat.not_lt_zero _)⟩⟩ ?_
 ·rintro k ⟨v,w,j⟩ nx ⟨hj,S⟩ hnx hk
  dsimp only at hj S
  refine⟨fun q=>?_,fun q=>?_⟩
  ·have q:=lt_t.1 q
   (try dsimp only at q)
   obtain⟨y,hy⟩:=get_lt q
   have hyn:=G.ins y (List.mem_of_getElem? hy)
   have hjr:j<r.2.1.length:=by rw[le2,insV_len];exact q
   refine⟨y,hy,_,getD_some hjr,gput_vc p S hyn (le3 _ (getD_mem hjr)) (fun t ht=>?_) (.inr ⟨z,hz,List.mem_of_getElem? hy⟩) (fun v' w' S'=>⟨(fun e=>by cases e),fun _=>⟨by omega,hnx _ ⟨q,?_⟩ (by dsimp only;omega)⟩⟩) (fun v' w' hn=>⟨fun _=>h2 _ _ hn,(fun e=>by cases e)⟩)⟩
   ·have:=(sound t ht).2.2 j
    rw[insV_getD hy] at this
    exact this
   ·refine S'.to fun _ d=>⟨d.1.1,fun j' hj'=>?_⟩
    by_cases e:j'=j
    ·subst e;rw[insV_getD hy];exact d.2
    ·exact d.1.2 j' (by dsimp only at hj';omega)
  ·have q:=lt_f.1 q
   (try dsimp only at q)
   exact hk (v,w) (S.to fun _ d=>⟨d.1,fun j' hj'=>d.2 j' (by omega)⟩)
 ·rintro⟨v,w⟩ S
  dsimp only at S
  have I2:=S.inv
  refine h1 v w ⟨I2.len,I2.le,I2.wlt,I2.bnd,I2.snd,fun i hi=>?_⟩ S.le S.mono
  rcases I2.cls i hi with q|q
  ·subst q
   rcases S.or with q|⟨rfl,⟨_,d1⟩,d2⟩
   ·exact .inr (.inl q)
   ·refine .inr (.inr fun z' hz' _=>?_)
    rw[hz] at hz';cases hz'
    rw[hr]
    refine⟨hok,d1,fun j=>?_⟩
    by_cases e:j<z.ins.length
    ·exact d2 j e
    ·rw[getD_out (by rw[le2,insV_len];omega),getD_out (by rw[insV_len];omega)]
     exact .inr rfl
  ·exact .inr q
structure CloseOk (c:Circ) (given:List Asg) (v:List Nat):Prop where
 len:v.length=c.nodes.length
 le:∀ i,v.getD i 0≤2
 snd:∀ t,CW c given t→∀ i,Blw (v.getD i 0) (t.getD i 0)
 cls:∀ i,i<c.nodes.length→ClosedAt c v i
 giv:∀ a∈given,v.getD a.net 0=a.value
theorem close_vc {c:Circ} (p:Pln c) (f3:Few3 c) {given:List Asg} (hg:∀ a∈given,a.net<c.nodes.length∧a.value≤1) (hl:given.length<2 ^ 60) {K:List Nat×Bool×Nat→Prop}
  (h1:∀ v,CloseOk c given v→K (v,true,0)) (h2:(∀ t,¬ CW c given t)→K ([],false,0)):implies_Close_wp c given K:=by
 have hlen:=p.good.len
 unfold implies_Close_wp
 refine plain_vc p ⟨fun q=>absurd rfl (ne_t.1 q),fun _=>?_⟩
 refine search_none (l:=given) ?_ ?_ ?_
 ·intro k i nx a ha hi hn
  obtain⟨g1,g2⟩:=hg a (List.mem_of_getElem? ha)
  refine⟨fun _=>⟨a,ha,joinI ⟨fun q=>absurd (lt_t.1 q) (Nat.not_lt_zero _),fun _=>⟨fun q=>absurd (nlt_t.1 q) (by omega),fun _=>known_vc ?_⟩⟩⟩,fun q=>?_⟩
  ·rw[decide_eq_true g2]
   exact⟨(fun e=>by cases e),fun _=>⟨by omega,hn⟩⟩
  ·have:=lt_f.1 q;omega
 ·intro k i nx hi hk
  refine⟨fun q=>?_,fun _=>hk⟩
  have:=lt_t.1 q;omega
 refine fanout_vc p.good.fanOk ⟨by omega,by omega,?_⟩
 refine joinLoop (fun s=>s.2.2≤c.nodes.length∧s.1.length=c.nodes.length∧(∀ j,j<s.2.2→s.1.getD j 0=2)∧s.2.1=List.range s.2.2) (fun s=>c.nodes.length-s.2.2) (fun s=>s.1.length=c.nodes.length∧(∀ j,j<c.nodes.length→s.1.getD j 0=2)∧s.2=List.range c.nodes.length) ?_ ⟨Nat.zero_le _,by simp,(fun j hj=>absurd hj (Nat.not_lt_zero _)),rfl⟩ ?_
 ·rintro k ⟨v,w,i⟩ nx ⟨hi,h3,h4,h5⟩ hnx hk
  dsimp only at hi h3 h4 h5
  refine⟨fun q=>?_,fun q=>?_⟩
  ·have q:=lt_t.1 q
   (try dsimp only at q)
   refine⟨q,_,getN h3 q,by rw[h5];simp only[List.length_range,List.length_singleton];omega,by omega,hnx _ ⟨q,by simpa using h3,fun j hj=>?_,?_⟩ (by dsimp only;omega)⟩
   ·dsimp only at hj ⊢
    rw[getD_set (by omega)]
    by_cases e:i=j
    ·rw[if_pos e]
    ·rw[if_neg e];exact h4 j (by omega)
   ·dsimp only
    rw[h5,List.range_succ]
  ·have q:=lt_f.1 q
   (try dsimp only at q)
   have:i=c.nodes.length:=by omega
   subst this
   exact hk (v,w) ⟨h3,h4,h5⟩
 rintro⟨v,w⟩ ⟨h3,h4,h5⟩
 dsimp only at h3 h4 h5
 subst h5
 have I0:CI c given (fun _=>False) v (List.range c.nodes.length):=by
  refine⟨h3,fun i=>?_,fun i m=>List.mem_range.1 m,?_,fun t ht i=>?_,fun i hi=>.inr (.inl (List.mem_range.2 hi))⟩
  ·by_cases e:i<c.nodes.length
   ·rw[h4 i e];exact Nat.le_refl _
   ·rw[getD_out (by omega)];exact Nat.zero_le _
  ·have:v.count 2≤v.length:=List.count_le_length
   rw[List.length_range];omega
  ·by_cases e:i<c.nodes.length
   ·exact .inl (h4 i e)
   ·rw[getD_out (by omega),getD_out (by rw[ht.len];omega)]
    exact .inr rfl
 refine joinLoop (fun s=>s.2.2≤given.length∧CI c given (fun _=>False) s.1 s.2.1∧∀ a∈given.take s.2.2,s.1.getD a.net 0=a.value) (fun s=>given.length-s.2.2) (fun s=>CI c given (fun _=>False) s.1 s.2∧∀ a∈given,s.1.getD a.net 0=a.value) ?_ ⟨Nat.zero_le _,I0,fun a m=>by simp at m⟩ ?_
 ·rintro k ⟨v,w,i⟩ nx ⟨hi,I,hv⟩ hnx hk
  dsimp only at hi I hv
  refine⟨fun q=>?_,fun q=>?_⟩
  ·have q:=lt_t.1 q
   (try dsimp only at q)
   obtain⟨a,ha⟩:=get_lt q
   obtain⟨l1,l2⟩:=List.getElem?_eq_some_iff.1 ha
   have hmem:=List.mem_of_getElem? ha
   obtain⟨g1,g2⟩:=hg a hmem
   have hb:=I.bnd
   have tk:∀ a'∈given.take (i+1),a'∈given.take i∨a'=a:=by
    intro a' m
    rw[List.take_succ_eq_append_getElem l1,l2] at m
    rcases List.mem_append.1 m with m|m
    ·exact .inl m
    ·exact .inr (List.mem_singleton.1 m)
   refine⟨a,ha,put_vc p.good I.len g1 (by omega) (fun e=>⟨(fun e2=>by cases e2),fun _=>⟨by omega,hnx _ ⟨q,I,fun a' m=>?_⟩ (by dsimp only;omega)⟩⟩) (fun e1 e2=>⟨(fun e3=>by cases e3),fun _=>⟨by omega,hnx _ ⟨q,(I.put p.good g1 e2 e1 (by omega) fun t ht=>ht.ext a hmem).1,fun a' m=>?_⟩ (by dsimp only;omega)⟩⟩) (fun e1 e2 e3=>⟨fun _=>h2 fun t ht=>?_,(fun e=>by cases e)⟩)⟩
   ·rcases tk a' m with m|rfl
    ·exact hv a' m
    ·rcases e with e|e
     ·omega
     ·exact e
   ·have hnl:a.net<v.length:=by rw[I.len];exact g1
    dsimp only
    rw[getD_set hnl]
    rcases tk a' m with m|rfl
    ·have e4:=hv a' m
     by_cases e:a.net=a'.net
     ·have:=(hg a' (List.mem_of_mem_take m)).2
      rw[← e,e2] at e4
      omega
     ·rw[if_neg e];exact e4
    ·rw[if_pos rfl]
   ·have b1:=(I.snd t ht a.net).resolve_left e2
    rw[ht.ext a hmem] at b1
    exact e3 b1
  ·have q:=lt_f.1 q
   (try dsimp only at q)
   exact hk (v,w) ⟨I,fun a m=>hv a (by rw[List.take_of_length_le q];exact m)⟩
 rintro⟨v,w⟩ ⟨I,hv⟩
 dsimp only at I hv
 refine joinLoop (fun s=>CI c given (fun _=>False) s.1 s.2∧∀ a∈given,s.1.getD a.net 0=a.value) (fun s=>s.1.count 2*1001+s.2.length) (fun s=>CloseOk c given s.1) ?_ ⟨I,hv⟩ ?_
 ·rintro k ⟨v,w⟩ nx ⟨I,hv⟩ hnx hk
  dsimp only at I hv
  refine⟨fun q=>?_,fun q=>?_⟩
  ·have q:=lt_t.1 q
   (try dsimp only at q)
   obtain⟨m,w',rfl⟩:∃ m w',w=m::w':=by
    cases w with
    |nil=>exact absurd q (Nat.lt_irrefl _)
    |cons m w'=>exact⟨m,w',rfl⟩
   have hm:=I.wlt m (by simp)
   obtain⟨z,hz⟩:=get_lt hm
   have hb:=I.bnd
   rw[List.length_cons] at hb
   refine⟨m,rfl,by rw[List.length_cons];omega,z,hz,free_vc ⟨fun e=>?_,fun e=>?_⟩⟩
   ·refine hnx _ ⟨⟨I.len,I.le,fun i hi=>I.wlt i (List.mem_cons_of_mem _ hi),by simp only[List.drop_succ_cons,List.drop_zero];omega,I.snd,fun i hi=>?_⟩,hv⟩ (by simp)
    rcases I.cls i hi with r|r|r
    ·exact .inl r
    ·rcases List.mem_cons.1 r with rfl|r
     ·refine .inr (.inr fun z' hz' hf=>?_)
      rw[hz] at hz';cases hz'
      rw[e] at hf;cases hf
     ·exact .inr (.inl r)
    ·exact .inr (.inr r)
   ·have I':CI c given (· = m) v w':=by
     refine⟨I.len,I.le,fun i hi=>I.wlt i (List.mem_cons_of_mem _ hi),by omega,I.snd,fun i hi=>?_⟩
     rcases I.cls i hi with r|r|r
     ·exact r.elim
     ·rcases List.mem_cons.1 r with rfl|r
      ·exact .inl rfl
      ·exact .inr (.inl r)
     ·exact .inr (.inr r)
    refine gate_vc p f3 hz e I' (fun v2 w2 I2 hle hmono=>⟨(fun e2=>by cases e2),fun _=>hnx _ ⟨I2,fun a ha=>?_⟩ ?_⟩) (fun v2 w2 hn=>⟨fun _=>h2 hn,(fun e2=>by cases e2)⟩)
    ·have e3:=hv a ha
     have:=(hg a ha).2
     have e4:=hmono a.net (by omega)
     dsimp only
     rw[e4,e3]
    ·dsimp only
     have e5:(m::w').length=w'.length+1:=List.length_cons
     have hle:v2.count 2*1001+w2.length≤v.count 2*1001+w'.length:=hle
     omega
  ·have q:=lt_f.1 q
   (try dsimp only at q)
   have e:w=[]:=List.length_eq_zero_iff.1 (by omega)
   subst e
   refine hk (v,[]) ⟨I.len,I.le,I.snd,fun i hi=>?_,hv⟩
   rcases I.cls i hi with r|r|r
   ·exact r.elim
   ·cases r
   ·exact r
 ·rintro⟨v,w⟩ C
  exact⟨C.len.symm,by rw[C.len];exact p.good.pos,h1 v C⟩
def givenN (n:Nat) (l:List U2):List Asg:=l.map fun u=>⟨u.a%n,u.b%2⟩
theorem given_vc {n:Nat}{l:List U2} (hn:0<n) (hl:∀ u∈l,u.a<256) (hlen:l.length≤6) {K:List Asg→Prop} (h:K (givenN n l)):probecardlaw24_Given_wp n l K:=by
 unfold probecardlaw24_Given_wp
 refine joinLoop (fun s=>s.2≤l.length∧s.1=givenN n (l.take s.2)) (fun s=>l.length-s.2) (fun a=>a=givenN n l) ?_ ⟨Nat.zero_le _,by simp[givenN]⟩ (fun a e=>by rw[e];exact h)
 rintro k ⟨o,i⟩ nx ⟨hi,hI⟩ hnx hk
 dsimp only at hi hI
 refine joinI ⟨fun q=>⟨fun _=>?_,fun e=>?_⟩,fun q=>⟨(fun e=>by cases e),fun _=>?_⟩⟩
 ·have q:=lt_t.1 q
  (try dsimp only at q)
  obtain⟨u,hu⟩:=get_lt q
  obtain⟨l1,l2⟩:=List.getElem?_eq_some_iff.1 hu
  refine⟨u,hu,hl u (List.mem_of_getElem? hu),hn,u,hu,by decide,by rw[hI];simp only[givenN,List.length_map,List.length_take,List.length_singleton];omega,by omega,hnx _ ⟨q,?_⟩ (by dsimp only;omega)⟩
  dsimp only
  rw[hI,List.take_succ_eq_append_getElem l1,l2]
  unfold givenN
  rw[List.map_append]
  rfl
 ·exact absurd (lt_f.1 e) (by omega)
 ·have q:=lt_f.1 q
  (try dsimp only at q)
  exact hk o (by rw[hI,List.take_of_length_le q])
theorem given_ok {n:Nat}{l:List U2} (hn:0<n):∀ a∈givenN n l,a.net<n∧a.value≤1:=by
 intro a m
 obtain⟨u,_,rfl⟩:=List.mem_map.1 m
 refine⟨Nat.mod_lt _ hn,?_⟩
 have:=Nat.mod_lt u.b (show 0<2 by decide)
 dsimp only
 omega
theorem closed_tot {c:Circ} (p:Pln c) (f3:Few3 c) {given:List Asg}{v:List Nat} (C:CloseOk c given v) {b:Nat}{t:List Nat} (T:TotOk c b t) (hfree:∀ f∈freeN c,v.getD f 0=t.getD f 0):∀ i,v.getD i 0=t.getD i 0:=by
 have hb:=tot_bin p f3 T
 have key:∀ n i,i<n→v.getD i 0=t.getD i 0:=by
  intro n
  induction n with
  |zero=>intro i h;exact absurd h (Nat.not_lt_zero _)
  |succ n ih =>
   intro i _
   by_cases hi:i<c.nodes.length
   ·obtain⟨x,hx⟩:=get_lt hi
    cases hf:isFree x.kind
    ·have hg:=p.gate hx hf
     have G:=p.good.node i x hx
     have e:insV v x=insV t x:=by
      unfold insV
      refine List.map_congr_left fun k hk=>?_
      have:=G.acyc hg.1 (by omega) k hk
      exact ih k (by omega)
     obtain⟨h1,h2,_⟩:=C.cls i hi x hx hf
     have F:GF x.kind (v.getD i 0) (insV v x):=gf hg.1 hg.2 (by rw[insV_len];exact G.arity) (by rw[insV_len];exact f3 i x hx) (C.le i) (insV_le C.le x)
     have e1:=F.full (by rw[e];exact insV_le hb x) h1
     rw[e1,e,← T.gate i x hx hf] at h2
     have:=hb i
     rcases h2 with h2|h2
     ·omega
     ·exact h2.symm
    ·refine hfree i ?_
     unfold freeN
     rw[List.mem_filter,kd_eq hx]
     exact⟨List.mem_range.2 hi,hf⟩
   ·rw[getD_out (by rw[C.len];omega),getD_out (by rw[T.len];omega)]
 exact fun i=>key (i+1) i (Nat.lt_succ_self i)
theorem gateK_few (bus:Bool) (g:GData) (ks:List Nat):(gateK bus g ks).ins.length≤3:=by
 unfold gateK
 generalize (if bus then g.kind%13 else g.kind%9)=kk
 repeat' split
 all_goals simp only
 all_goals first | (simp;done) | (split <;> simp)
theorem circ_few3 {x:CData} (hm:x.mem=false):Few3 (circN x):=by
 intro i y h
 rcases circ_node hm h with⟨_,rfl⟩|⟨_,_,d,_,rfl⟩|⟨_,_,g,rfl⟩
 ·exact Nat.zero_le _
 ·show (1:Nat)≤3;decide
 ·exact gateK_few _ _ _
theorem CloseOk.cw {c:Circ}{given:List Asg}{v:List Nat} (C:CloseOk c given v):CW c given v :=
 ⟨C.len,C.le,C.giv,fun i=>by
  by_cases h:i<c.nodes.length
  ·exact C.cls i h
  ·intro x hx _;exact absurd (lt_of_get hx) h⟩
theorem blw_antisymm {v w:List Nat} (hl:v.length=w.length) (h1:∀ i,Blw (v.getD i 0) (w.getD i 0)) (h2:∀ i,Blw (w.getD i 0) (v.getD i 0)):v=w:=by
 refine List.ext_getElem hl fun i a b=>?_
 have e1:=h1 i
 have e2:=h2 i
 rw[List.getD,List.getElem?_eq_getElem a,List.getD,List.getElem?_eq_getElem b] at e1
 rw[List.getD,List.getElem?_eq_getElem b,List.getD,List.getElem?_eq_getElem a] at e2
 simp only[Option.getD_some] at e1 e2
 rcases e1 with e1|e1
 ·rcases e2 with e2|e2
  ·omega
  ·omega
 ·exact e1
theorem CloseOk.eq {c:Circ}{given:List Asg}{v w:List Nat} (C:CloseOk c given v) (D:CloseOk c given w):v=w :=
 blw_antisymm (C.len.trans D.len.symm) (C.snd w D.cw) (D.snd v C.cw)
open Classical in
noncomputable def clo (c:Circ) (given:List Asg):Option (List Nat):=if h:∃ v,CloseOk c given v then some (Classical.choose h) else none
theorem clo_ok {c:Circ}{given:List Asg}{v:List Nat} (C:CloseOk c given v):clo c given=some v:=by
 unfold clo
 rw[dif_pos ⟨v,C⟩]
 exact congrArg some ((Classical.choose_spec (⟨v,C⟩:∃ v,CloseOk c given v)).eq C)
theorem clo_none {c:Circ}{given:List Asg} (n:∀ t,¬ CW c given t):clo c given=none:=by
 unfold clo
 rw[dif_neg (fun ⟨v,C⟩=>n v C.cw)]
theorem clo_some {c:Circ}{given:List Asg}{v:List Nat} (h:clo c given=some v):CloseOk c given v:=by
 unfold clo at h
 split at h
 ·rename_i e
  cases h
  exact Classical.choose_spec e
 ·cases h
def cloR (o:Option (List Nat)):List Nat×Bool×Nat:=match o with
 |some v=>(v,true,0)
 |none=>([],false,0)
structure GivOk (c:Circ) (given:List Asg):Prop where
 ok:∀ a∈given,a.net<c.nodes.length∧a.value≤1
 len:given.length<2 ^ 60
theorem clo_cases {c:Circ} (p:Pln c) (f3:Few3 c) {given:List Asg} (g:GivOk c given):(∃ v,CloseOk c given v∧clo c given=some v)∨((∀ t,¬ CW c given t)∧clo c given=none):=by
 have:=close_vc p f3 g.ok g.len (K:=fun r=>(∃ v,CloseOk c given v∧r=cloR (some v))∨((∀ t,¬ CW c given t)∧r=cloR none)) (fun v C=>.inl ⟨v,C,rfl⟩) (fun n=>.inr ⟨n,rfl⟩)
 obtain⟨r,h|h,_⟩:=implies_Close_walk this (h0:=heapOf vars) (fun i o e=>by rw[heapOf_get];exact e)
 ·obtain⟨v,C,_⟩:=h
  exact .inl ⟨v,C,clo_ok C⟩
 ·exact .inr ⟨h.1,clo_none h.1⟩
theorem clo_vc {c:Circ} (p:Pln c) (f3:Few3 c) {given:List Asg} (g:GivOk c given) {K:List Nat×Bool×Nat→Prop} (h:K (cloR (clo c given))):implies_Close_wp c given K:=by
 refine close_vc p f3 g.ok g.len (fun v C=>?_) fun n=>?_
 ·rw[clo_ok C] at h;exact h
 ·rw[clo_none n] at h;exact h
def putF (v:List Nat) (m x:Nat):Option (List Nat) :=
 if x=2 then some v else if v.getD m 0=2 then some (v.set m x) else if v.getD m 0=x then some v else none
def putsF (v:List Nat):List (Nat×Nat)→Option (List Nat)
 |[]=>some v
 |(m,x)::r=>match putF v m x with
  |some v=>putsF v r
  |none=>none
def gateF (c:Circ) (v:List Nat) (i:Nat):Option (List Nat):=match c.nodes[i]? with
 |some z=>match isFree z.kind with
  |true=>some v
  |false=>match gateR z.kind (v.getD i 0) (insV v z) with
   |(o,ins,ok)=>match ok with
    |true=>putsF v ((i,o)::z.ins.zip ins)
    |false=>none
 |none=>some v
def passF (c:Circ) (v:List Nat):List Nat→Option (List Nat)
 |[]=>some v
 |i::r=>match gateF c v i with
  |some v=>passF c v r
  |none=>none
def iterF (c:Circ):Nat→List Nat→Option (List Nat)
 |0,v=>some v
 |n+1,v=>match passF c v (List.range c.nodes.length) with
  |some v=>iterF c n v
  |none=>none
def closeF (c:Circ) (given:List Asg):Option (List Nat):=match putsF (List.replicate c.nodes.length 2) (given.map fun a=>(a.net,a.value)) with
 |some v=>iterF c c.nodes.length v
 |none=>none
structure UnderF (c:Circ) (given:List Asg) (v:List Nat):Prop where
 len:v.length=c.nodes.length
 le:∀ i,v.getD i 0≤2
 snd:∀ t,CW c given t→∀ i,Blw (v.getD i 0) (t.getD i 0)
theorem put_under {c:Circ}{given:List Asg}{v:List Nat} (U:UnderF c given v) {m x:Nat} (hm:m<c.nodes.length) (hx:x≤2) (hs:∀ t,CW c given t→Blw x (t.getD m 0)) :
  (∀ w,putF v m x=some w→UnderF c given w)∧(putF v m x=none→∀ t,¬ CW c given t):=by
 have hml:m<v.length:=by rw[U.len];exact hm
 unfold putF
 split
 ·exact⟨fun w e=>by cases e;exact U,fun e=>by cases e⟩
 rename_i h2
 split
 ·refine⟨fun w e=>?_,fun e=>by cases e⟩
  cases e
  refine⟨by rw[List.length_set];exact U.len,fun i=>?_,fun t ht i=>?_⟩
  ·rw[getD_set hml];split
   ·exact hx
   ·exact U.le i
  ·rw[getD_set hml];split
   ·rename_i e;subst e;exact hs t ht
   ·exact U.snd t ht i
 rename_i h3
 split
 ·exact⟨fun w e=>by cases e;exact U,fun e=>by cases e⟩
 rename_i h4
 refine⟨(fun w e=>by cases e),fun _ t ht=>?_⟩
 have a:=(hs t ht).resolve_left h2
 have b:=(U.snd t ht m).resolve_left h3
 exact h4 (b.trans a.symm)
theorem puts_under {c:Circ}{given:List Asg}:∀ {l:List (Nat×Nat)}{v:List Nat},UnderF c given v→(∀ q∈l,q.1<c.nodes.length∧q.2≤2∧∀ t,CW c given t→Blw q.2 (t.getD q.1 0)) →
  (∀ w,putsF v l=some w→UnderF c given w)∧(putsF v l=none→∀ t,¬ CW c given t)
 |[],v,U,_=>⟨fun w e=>by cases e;exact U,fun e=>by cases e⟩
 |(m,x)::r,v,U,h=>by
  obtain⟨h1,h2,h3⟩:=h (m,x) (by simp)
  obtain⟨k1,k2⟩:=put_under U h1 h2 h3
  unfold putsF
  cases e:putF v m x with
  |some v'=>exact puts_under (k1 v' e) fun q m=>h q (by simp[m])
  |none=>exact⟨(fun w q=>by cases q),fun _=>k2 e⟩
theorem gate_under {c:Circ} (p:Pln c) (f3:Few3 c) {given:List Asg}{v:List Nat} (U:UnderF c given v) (m:Nat) :
  (∀ w,gateF c v m=some w→UnderF c given w)∧(gateF c v m=none→∀ t,¬ CW c given t):=by
 unfold gateF
 cases hz:c.nodes[m]? with
 |none=>exact⟨fun w e=>by cases e;exact U,fun e=>by cases e⟩
 |some z =>
  dsimp only
  cases hf:isFree z.kind with
  |true=>exact⟨fun w e=>by cases e;exact U,fun e=>by cases e⟩
  |false =>
   dsimp only
   have hm:=lt_of_get hz
   have hg:=p.gate hz hf
   have G:=p.good.node m z hz
   have hl3:=f3 m z hz
   have F:GF z.kind (v.getD m 0) (insV v z):=gf hg.1 hg.2 (by rw[insV_len];exact G.arity) (by rw[insV_len];exact hl3) (U.le m) (insV_le U.le z)
   have sound:∀ t,CW c given t→(gateR z.kind (v.getD m 0) (insV v z)).2.2=true∧Blw (gateR z.kind (v.getD m 0) (insV v z)).1 (t.getD m 0)∧∀ j,Blw ((gateR z.kind (v.getD m 0) (insV v z)).2.1.getD j 0) ((insV t z).getD j 0):=by
    intro t ht
    obtain⟨k1,k2,k3⟩:=ht.cls m z hz hf
    have M:=(gate_mono (o:=v.getD m 0) (l:=insV v z) hg.1 hg.2 (by rw[insV_len];exact G.arity) (by rw[insV_len];exact hl3) (ht.le m) (insV_le ht.le z) (U.snd t ht m) (by rw[insV_len,insV_len]) (fun j=>?_) k1).1
    ·exact⟨M.1,M.2.1.trans k2,fun j=>(M.2.2 j).trans (k3 j)⟩
    ·by_cases hj:j<z.ins.length
     ·obtain⟨y,hy⟩:=get_lt hj
      rw[insV_getD hy,insV_getD hy]
      exact U.snd t ht y
     ·rw[getD_out (by rw[insV_len];omega),getD_out (by rw[insV_len];omega)]
      exact .inr rfl
   generalize hr:gateR z.kind (v.getD m 0) (insV v z)=r at F sound
   obtain⟨o,ins,ok⟩:=r
   have FL:=F.le
   rw[hr] at FL
   dsimp only at sound FL ⊢
   cases ok with
   |false=>exact⟨(fun w e=>by cases e),fun _ t ht=>by have:=(sound t ht).1;cases this⟩
   |true =>
    obtain⟨b1,b2,b3⟩:=FL rfl
    refine puts_under U fun q hq=>?_
    rcases List.mem_cons.1 hq with rfl|hq
    ·exact⟨hm,b1,fun t ht=>(sound t ht).2.1⟩
    ·obtain⟨y,x⟩:=q
     obtain⟨j,hj,e⟩:=List.getElem_of_mem hq
     have hj1:j<z.ins.length:=by rw[List.length_zip] at hj;omega
     have hj2:j<ins.length:=by rw[List.length_zip] at hj;omega
     rw[List.getElem_zip] at e
     cases e
     refine⟨G.ins _ (List.getElem_mem hj1),b3 _ (List.getElem_mem hj2),fun t ht=>?_⟩
     have:=(sound t ht).2.2 j
     rw[insV_getD (List.getElem?_eq_getElem hj1),List.getD,List.getElem?_eq_getElem hj2] at this
     exact this
theorem pass_under {c:Circ} (p:Pln c) (f3:Few3 c) {given:List Asg}:∀ {l:List Nat}{v:List Nat},UnderF c given v→(∀ w,passF c v l=some w→UnderF c given w)∧(passF c v l=none→∀ t,¬ CW c given t)
 |[],v,U=>⟨fun w e=>by cases e;exact U,fun e=>by cases e⟩
 |i::r,v,U=>by
  obtain⟨k1,k2⟩:=gate_under p f3 U i
  unfold passF
  cases e:gateF c v i with
  |some v'=>exact pass_under p f3 (k1 v' e)
  |none=>exact⟨(fun w q=>by cases q),fun _=>k2 e⟩
theorem iter_under {c:Circ} (p:Pln c) (f3:Few3 c) {given:List Asg}:∀ {n:Nat}{v:List Nat},UnderF c given v→(∀ w,iterF c n v=some w→UnderF c given w)∧(iterF c n v=none→∀ t,¬ CW c given t)
 |0,v,U=>⟨fun w e=>by cases e;exact U,fun e=>by cases e⟩
 |n+1,v,U=>by
  obtain⟨k1,k2⟩:=pass_under p f3 U (l:=List.range c.nodes.length)
  unfold iterF
  cases e:passF c v (List.range c.nodes.length) with
  |some v'=>exact iter_under p f3 (k1 v' e)
  |none=>exact⟨(fun w q=>by cases q),fun _=>k2 e⟩
def closedB (c:Circ) (v:List Nat):Bool:=(List.range c.nodes.length).all fun i=>match c.nodes[i]? with
 |some z=>isFree z.kind||match gateR z.kind (v.getD i 0) (insV v z) with
  |(o,ins,ok)=>ok&&blw o (v.getD i 0)&&blwL ins (insV v z)
 |none=>true
theorem closedB_ok {c:Circ}{v:List Nat} (h:closedB c v=true):∀ i,i<c.nodes.length→ClosedAt c v i:=by
 intro i hi z hz hf
 have q:=List.all_eq_true.1 h i (List.mem_range.2 hi)
 rw[hz] at q
 dsimp only at q
 rw[hf,Bool.false_or] at q
 generalize gateR z.kind (v.getD i 0) (insV v z)=r at q
 obtain⟨o,ins,ok⟩:=r
 dsimp only at q ⊢
 rw[Bool.and_eq_true,Bool.and_eq_true,blw_iff,blwL_iff] at q
 exact⟨q.1.1,q.1.2,q.2.2⟩
theorem closeF_under {c:Circ} (p:Pln c) (f3:Few3 c) {given:List Asg} (g:GivOk c given):(∀ v,closeF c given=some v→UnderF c given v)∧(closeF c given=none→∀ t,¬ CW c given t):=by
 have U0:UnderF c given (List.replicate c.nodes.length 2):=by
  refine⟨List.length_replicate ..,fun i=>?_,fun t ht i=>?_⟩
  ·rw[List.getD,List.getElem?_replicate];split <;> simp
  ·by_cases hi:i<c.nodes.length
   ·left;rw[List.getD,List.getElem?_replicate,if_pos hi];rfl
   ·right;rw[getD_out (by rw[List.length_replicate];omega),getD_out (by rw[ht.len];omega)]
 obtain⟨k1,k2⟩:=puts_under U0 (l:=given.map fun a=>(a.net,a.value)) fun q m=>by
  obtain⟨a,ha,rfl⟩:=List.mem_map.1 m
  obtain⟨a1,a2⟩:=g.ok a ha
  exact⟨a1,by dsimp only;omega,fun t ht=>.inr (ht.ext a ha).symm⟩
 unfold closeF
 cases e:putsF (List.replicate c.nodes.length 2) (given.map fun a=>(a.net,a.value)) with
 |some v=>exact iter_under p f3 (k1 v e)
 |none=>exact⟨(fun w q=>by cases q),fun _=>k2 e⟩
def closeC (c:Circ) (given:List Asg) (v:List Nat):Bool:=match closeF c given with
 |some w=>eqLs v w&&closedB c w&&given.all fun a=>Nat.beq (w.getD a.net 0) a.value
 |none=>false
theorem eqLs_iff:∀ {l m:List Nat},eqLs l m=true→l=m
 |[],[],_=>rfl
 |[],_::_,h=>by cases h
 |_::_,[],h=>by cases h
 |a::l,b::m,h=>by
  unfold eqLs at h
  rw[Bool.and_eq_true,Nat.beq_eq] at h
  rw[h.1,eqLs_iff h.2]
theorem closeC_ok {c:Circ} (p:Pln c) (f3:Few3 c) {given:List Asg} (g:GivOk c given) {v:List Nat} (h:closeC c given v=true):clo c given=some v:=by
 unfold closeC at h
 cases e:closeF c given with
 |none=>rw[e] at h;cases h
 |some w =>
  rw[e] at h
  dsimp only at h
  rw[Bool.and_eq_true,Bool.and_eq_true] at h
  obtain⟨⟨h1,h2⟩,h3⟩:=h
  rw[eqLs_iff h1]
  have U:=(closeF_under p f3 g).1 w e
  exact clo_ok ⟨U.len,U.le,U.snd,closedB_ok h2,fun a m=>Nat.eq_of_beq_eq_true (List.all_eq_true.1 h3 a m)⟩
theorem closeN_ok {c:Circ} (p:Pln c) (f3:Few3 c) {given:List Asg} (g:GivOk c given) (h:closeF c given=none):clo c given=none:=clo_none ((closeF_under p f3 g).2 h)
structure Lawv where
 cond:Asg
 thn:Asg
def encLaw (x:Lawv):Value:=.agg ⟨[i64 x.cond.net,n8 x.cond.value,i64 x.thn.net,n8 x.thn.value]⟩
theorem pure_lawC (x:Lawv):AllPure (cl (encLaw x)):=AllPure.cons (PureV.flat rfl) (AllPure.cons (PureV.flat rfl) (AllPure.cons (PureV.flat rfl) (AllPure.cons (PureV.flat rfl) AllPure.nil)))
set_option maxHeartbeats 8000000
def learns_known_wp (p0:Circ) (p1:(List Asg)) (K:Bool→Prop):Prop :=
 joinW (α:=Unit) (fun k1=>loopW (S:=Nat) (fun v2 nx3=>((ltN v2 p1.length)=true→∃ x4,p1[v2]?=some x4∧joinW (α:=Bool) (fun k8=>((ltN x4.net 0)=true→k8 true)∧((ltN x4.net 0)=false→((!ltN x4.net p0.nodes.length)=true→k8 true)∧((!ltN x4.net p0.nodes.length)=false→logic_Known_wp x4.value (fun r9=>k8 (!r9))))) (fun v7=>(v7=true→K false)∧(v7=false→v2+1<2 ^ 63∧nx3 (v2+1))))∧((ltN v2 p1.length)=false→k1 ())) 0) (fun _=>K true)
theorem learns_known_walk {p0:Circ}{p1:(List Asg)}{K:Bool→Prop} (hm:learns_known_wp p0 p1 K) {h0:Heap} (hB:HasB vars h0):∃ r,K r∧CallD Tryz.prog NG 60 ⟨[encCirc p0,(encL 2 encAsg) p1]⟩ h0 (Value.bool r) h0:=by
 unfold learns_known_wp at hm
 refine fw Tryz.func60 hB (enc:=Value.bool) (fun r=>PureV.flat rfl) fun O=>?_;conv=>whnf
 refine gX ?_
 refine fz ?_;refine gH ?_
 refine jn hm 31 [] (fun s=>s) (fun _ h=>Own vars h0 [] h) (fun _=>[]) (fun hm=>?_) ?_
 ·refine gX ?_
  refine lw 31 [2,7,8] (σ:=Nat) (fun s=>s) (fun v2 h=>Own vars h0 [] h) (fun v2=>[(9,(i64 v2))]) 0 hm O ?_
  clear hm;rintro v2 nx3 base h hm O
  refine gX ?_
  refine br hm (fun hm=>?_) fun hm=>?_
  ·refine gX ?_
   refine atF hm fun x4 hx4 hm=>?_;refine gH ?_
   refine O.new (anew_alloc (l:=[(i64 0),(n8 0)]) rfl rfl rfl) fun g5 h O=>?_;refine gH ?_
   refine O.stC 2 (.head _) [(i64 x4.net),(n8 x4.value)] fun h O=>?_;refine gH ?_
   refine jn hm 31 [2,7,8,9] (fun s=>s) (fun v7 h=>Own vars h0 [] h) (fun v7=>[(29,(.bool v7))]) (fun hm=>?_) ?_
   ·refine gX ?_
    refine br hm (fun hm=>?_) fun hm=>?_
    ·refine gX ?_
     refine bt ?_;refine gH ?_
     exact jx true hm (O.sel [] (by decide))
    ·refine gX ?_
     refine br hm (fun hm=>?_) fun hm=>?_
     ·refine gX ?_
      exact jx true hm (O.sel [] (by decide))
     ·refine gX ?_
      refine ca (logic_Known_walk hm O.has) fun r9 hm=>?_;refine gH ?_
      exact jx (!r9) hm (O.sel [] (by decide))
   ·clear hm;rintro v7 base h hm O
    refine gX ?_
    refine br hm (fun hm=>?_) fun hm=>?_
    ·refine gX ?_
     exact fe hm O
    ·refine gX ?_
     refine aAdd hm fun hm=>?_;refine gH ?_
     exact jx (v2+1) hm O
  ·refine gX ?_
   exact jx () hm O
 ·clear hm;rintro _ base h hm O
  refine gX ?_
  exact fe hm O
def probecardlaw25_at_wp (p0:Nat) (p1:Nat) (K:Asg→Prop):Prop :=
 K (⟨p0,p1⟩:Asg)
theorem probecardlaw25_at_walk {p0:Nat}{p1:Nat}{K:Asg→Prop} (hm:probecardlaw25_at_wp p0 p1 K) {h0:Heap} (hB:HasB vars h0):∃ r,K r∧CallD Tryz.prog NG 22 ⟨[i64 p0,n8 p1]⟩ h0 (encAsg r) h0:=by
 unfold probecardlaw25_at_wp at hm
 refine fw Tryz.func22 hB (enc:=encAsg) (fun r=>pure_asg _) fun O=>?_;conv=>whnf
 refine gX ?_
 refine O.new (anew_alloc (l:=[(i64 0),(n8 0)]) rfl rfl rfl) fun g1 h O=>?_;refine gH ?_
 refine gX ?_
 refine O.stC 2 (.head _) [(i64 p0),(n8 p1)] fun h O=>?_;refine gX ?_
 refine⟨_,resAggK rfl rfl (O.at (.head _)) rfl rfl (lbE rfl) rfl,?_⟩;conv=>whnf
 exact fe hm O
def probecardlaw25_has_wp (p0:(List Nat)) (p1:(List Asg)) (K:Bool→Prop):Prop :=
 joinW (α:=Unit) (fun k1=>loopW (S:=Nat) (fun v2 nx3=>((ltN v2 p1.length)=true→∃ x4,p1[v2]?=some x4∧∃ x5,p0[x4.net]?=some x5∧∃ x6,p1[v2]?=some x6∧((neN x5 x6.value)=true→K false)∧((neN x5 x6.value)=false→v2+1<2 ^ 63∧nx3 (v2+1)))∧((ltN v2 p1.length)=false→k1 ())) 0) (fun _=>K true)
theorem probecardlaw25_has_walk {p0:(List Nat)}{p1:(List Asg)}{K:Bool→Prop} (hm:probecardlaw25_has_wp p0 p1 K) {h0:Heap} (hB:HasB vars h0):∃ r,K r∧CallD Tryz.prog NG 35 ⟨[(encL 1 n8) p0,(encL 2 encAsg) p1]⟩ h0 (Value.bool r) h0:=by
 unfold probecardlaw25_has_wp at hm
 refine fw Tryz.func35 hB (enc:=Value.bool) (fun r=>PureV.flat rfl) fun O=>?_;conv=>whnf
 apply Cs;conv=>whnf
 apply Cs;refine gH ?_
 refine jn hm 26 [] (fun s=>s) (fun _ h=>Own vars h0 [] h) (fun _=>[]) (fun hm=>?_) ?_
 ·refine gX ?_
  refine lw 26 [0,1] (σ:=Nat) (fun s=>s) (fun v2 h=>Own vars h0 [] h) (fun v2=>[(5,(i64 v2))]) 0 hm O ?_
  clear hm;rintro v2 nx3 base h hm O
  refine gX ?_
  refine br hm (fun hm=>?_) fun hm=>?_
  ·refine gX ?_
   refine atF hm fun x4 hx4 hm=>?_;refine gH ?_
   refine atF hm fun x5 hx5 hm=>?_;refine gH ?_
   refine atF hm fun x6 hx6 hm=>?_;refine gX ?_
   refine br hm (fun hm=>?_) fun hm=>?_
   ·refine gX ?_
    exact fe hm O
   ·refine gX ?_
    refine aAdd hm fun hm=>?_;refine gH ?_
    exact jx (v2+1) hm O
  ·refine gX ?_
   exact jx () hm O
 ·clear hm;rintro _ base h hm O
  refine gX ?_
  exact fe hm O
def probecardlaw25_equal_wp (p0:(List Nat)) (p1:Bool) (p2:(List Nat)) (p3:Bool) (K:Bool→Prop):Prop :=
 joinW (α:=Bool) (fun k2=>((p1 != p3)=true→k2 true)∧((p1 != p3)=false→k2 (neN p0.length p2.length))) (fun v1=>(v1=true→K false)∧(v1=false→joinW (α:=Unit) (fun k3=>loopW (S:=Nat) (fun v4 nx5=>((ltN v4 p0.length)=true→∃ x6,p0[v4]?=some x6∧∃ x7,p2[v4]?=some x7∧((neN x6 x7)=true→K false)∧((neN x6 x7)=false→v4+1<2 ^ 63∧nx5 (v4+1)))∧((ltN v4 p0.length)=false→k3 ())) 0) (fun _=>K true)))
theorem probecardlaw25_equal_walk {p0:(List Nat)}{p1:Bool}{p2:(List Nat)}{p3:Bool}{K:Bool→Prop} (hm:probecardlaw25_equal_wp p0 p1 p2 p3 K) {h0:Heap} (hB:HasB vars h0):∃ r,K r∧CallD Tryz.prog NG 26 ⟨[(encL 1 n8) p0,Value.bool p1,(encL 1 n8) p2,Value.bool p3]⟩ h0 (Value.bool r) h0:=by
 unfold probecardlaw25_equal_wp at hm
 refine fw Tryz.func26 hB (enc:=Value.bool) (fun r=>PureV.flat rfl) fun O=>?_;conv=>whnf
 apply Cs;conv=>whnf
 apply Cs;refine gH ?_
 apply Cs;conv=>whnf
 refine jn hm 35 [0,2] (fun s=>s) (fun v1 h=>Own vars h0 [] h) (fun v1=>[(19,(.bool v1))]) (fun hm=>?_) ?_
 ·refine gX ?_
  refine br hm (fun hm=>?_) fun hm=>?_
  ·refine gX ?_
   exact jx true hm O
  ·refine gX ?_
   exact jx (neN p0.length p2.length) hm O
 ·clear hm;rintro v1 base h hm O
  refine gX ?_
  refine br hm (fun hm=>?_) fun hm=>?_
  ·refine gX ?_
   exact fe hm O
  ·apply Cs;conv=>whnf
   refine jn hm 35 [] (fun s=>s) (fun _ h=>Own vars h0 [] h) (fun _=>[]) (fun hm=>?_) ?_
   ·refine gX ?_
    refine lw 35 [0,2] (σ:=Nat) (fun s=>s) (fun v4 h=>Own vars h0 [] h) (fun v4=>[(9,(i64 v4))]) 0 hm O ?_
    clear hm;rintro v4 nx5 base h hm O
    refine gX ?_
    refine br hm (fun hm=>?_) fun hm=>?_
    ·refine gX ?_
     refine atF hm fun x6 hx6 hm=>?_;refine gH ?_
     refine atF hm fun x7 hx7 hm=>?_;refine gX ?_
     refine br hm (fun hm=>?_) fun hm=>?_
     ·refine gX ?_
      exact fe hm O
     ·refine gX ?_
      refine aAdd hm fun hm=>?_;refine gH ?_
      exact jx (v4+1) hm O
    ·refine gX ?_
     exact jx () hm O
   ·clear hm;rintro _ base h hm O
    refine gX ?_
    exact fe hm O
def probecardlaw25_example_wp  (K:Circ→Prop):Prop :=
 K (⟨([(⟨0,([]:(List Nat)),0,0⟩:Node),(⟨0,([]:(List Nat)),0,0⟩:Node),(⟨5,([0,1]:(List Nat)),0,0⟩:Node),(⟨4,([0]:(List Nat)),0,0⟩:Node),(⟨5,([3,1]:(List Nat)),0,0⟩:Node),(⟨7,([2,4]:(List Nat)),0,0⟩:Node)]:(List Node)),([(⟨#[97]⟩:ByteArray),(⟨#[98]⟩:ByteArray),(⟨#[100]⟩:ByteArray),(⟨#[101]⟩:ByteArray),(⟨#[102]⟩:ByteArray),(⟨#[103]⟩:ByteArray)]:(List ByteArray)),[],([5]:(List Nat))⟩:Circ)
theorem probecardlaw25_example_walk  {K:Circ→Prop} (hm:probecardlaw25_example_wp  K) {h0:Heap} (hB:HasB vars h0):∃ r,K r∧CallD Tryz.prog NG 29 ⟨[]⟩ h0 (encCirc r) h0:=by
 unfold probecardlaw25_example_wp at hm
 refine fw Tryz.func29 hB (enc:=encCirc) (fun r=>pure_circ _) fun O=>?_;conv=>whnf
 refine gX ?_
 refine O.new (anew_alloc (l:=[(.slice none 0 0),(.slice none 0 0),(.slice none 0 0),(.slice none 0 0)]) rfl rfl rfl) fun g1 h O=>?_;refine gH ?_
 refine gX ?_
 refine fz ?_;refine gH ?_
 refine fz ?_;refine gH ?_
 refine fz ?_;refine gH ?_
 refine fz ?_;refine gH ?_
 refine NewG.frzW rfl (VLe.els (s:=4) (es':=([(⟨0,([]:(List Nat)),0,0⟩:Node),(⟨0,([]:(List Nat)),0,0⟩:Node),(⟨5,([0,1]:(List Nat)),0,0⟩:Node),(⟨4,([0]:(List Nat)),0,0⟩:Node),(⟨5,([3,1]:(List Nat)),0,0⟩:Node),(⟨7,([2,4]:(List Nat)),0,0⟩:Node)]).map encNode) rfl (map_size (enc:=encNode) (s:=4) (fun _=>rfl) _) (LLe.cons (VLe.refl _ _) (LLe.cons (VLe.nil _ _) (LLe.cons (VLe.refl _ _) (LLe.cons (VLe.refl _ _) (LLe.cons (VLe.refl _ _) (LLe.cons (VLe.nil _ _) (LLe.cons (VLe.refl _ _) (LLe.cons (VLe.refl _ _) (LLe.cons (VLe.refl _ _) (LLe.cons (VLe.refl _ _) (LLe.cons (VLe.refl _ _) (LLe.cons (VLe.refl _ _) (LLe.cons (VLe.refl _ _) (LLe.cons (VLe.refl _ _) (LLe.cons (VLe.refl _ _) (LLe.cons (VLe.refl _ _) (LLe.cons (VLe.refl _ _) (LLe.cons (VLe.refl _ _) (LLe.cons (VLe.refl _ _) (LLe.cons (VLe.refl _ _) (LLe.cons (VLe.refl _ _) (LLe.cons (VLe.refl _ _) (LLe.cons (VLe.refl _ _) (LLe.cons (VLe.refl _ _) (LLe.nil _)))))))))))))))))))))))))) ?_;refine gH ?_
 refine fz ?_;refine gH ?_
 refine fz ?_;refine gH ?_
 refine O.stC 4 (.head _) [((encL 4 encNode) ([(⟨0,([]:(List Nat)),0,0⟩:Node),(⟨0,([]:(List Nat)),0,0⟩:Node),(⟨5,([0,1]:(List Nat)),0,0⟩:Node),(⟨4,([0]:(List Nat)),0,0⟩:Node),(⟨5,([3,1]:(List Nat)),0,0⟩:Node),(⟨7,([2,4]:(List Nat)),0,0⟩:Node)]:(List Node))),((encL 1 Value.string) ([(⟨#[97]⟩:ByteArray),(⟨#[98]⟩:ByteArray),(⟨#[100]⟩:ByteArray),(⟨#[101]⟩:ByteArray),(⟨#[102]⟩:ByteArray),(⟨#[103]⟩:ByteArray)]:(List ByteArray))),(.slice none 0 0),((encL 1 i64) ([5]:(List Nat)))] fun h O=>?_;refine gX ?_
 refine⟨_,resAggK rfl rfl (O.at (.head _)) rfl rfl (lbE rfl) rfl,?_⟩;conv=>whnf
 exact⟨(⟨([(⟨0,([]:(List Nat)),0,0⟩:Node),(⟨0,([]:(List Nat)),0,0⟩:Node),(⟨5,([0,1]:(List Nat)),0,0⟩:Node),(⟨4,([0]:(List Nat)),0,0⟩:Node),(⟨5,([3,1]:(List Nat)),0,0⟩:Node),(⟨7,([2,4]:(List Nat)),0,0⟩:Node)]:(List Node)),([(⟨#[97]⟩:ByteArray),(⟨#[98]⟩:ByteArray),(⟨#[100]⟩:ByteArray),(⟨#[101]⟩:ByteArray),(⟨#[102]⟩:ByteArray),(⟨#[103]⟩:ByteArray)]:(List ByteArray)),[],([5]:(List Nat))⟩:Circ),hm,O.ext,fun h2 F=>VLe.agg (LLe.cons (VLe.refl _ _) (LLe.cons (VLe.refl _ _) (LLe.cons (VLe.nil _ _) (LLe.cons (VLe.refl _ _) (LLe.nil _)))))⟩
def cmp_Or_int__wp (p0:(List Int)) (K:Int→Prop):Prop :=
 joinW (α:=Unit) (fun k1=>loopW (S:=Nat) (fun v2 nx3=>((ltN v2 p0.length)=true→∃ x4,p0[v2]?=some x4∧((neZ x4 (Int.ofNat 0))=true→K x4)∧((neZ x4 (Int.ofNat 0))=false→v2+1<2 ^ 63∧nx3 (v2+1)))∧((ltN v2 p0.length)=false→k1 ())) 0) (fun _=>K (Int.ofNat 0))
theorem cmp_Or_int__walk {p0:(List Int)}{K:Int→Prop} (hm:cmp_Or_int__wp p0 K) {h0:Heap} (hB:HasB vars h0):∃ r,K r∧CallD Tryz.prog NG 57 ⟨[(encL 1 z64) p0]⟩ h0 (z64 r) h0:=by
 unfold cmp_Or_int__wp at hm
 refine fw Tryz.func57 hB (enc:=z64) (fun r=>PureV.flat rfl) fun O=>?_;conv=>whnf
 apply Cs;conv=>whnf
 apply Cs;refine gH ?_
 apply Cs;conv=>whnf
 apply Cs;refine gH ?_
 refine jn hm 18 [3] (fun s=>s) (fun _ h=>Own vars h0 [] h) (fun _=>[]) (fun hm=>?_) ?_
 ·refine gX ?_
  refine lw 18 [3,6,7] (σ:=Nat) (fun s=>s) (fun v2 h=>Own vars h0 [] h) (fun v2=>[(8,(i64 v2))]) 0 hm O ?_
  clear hm;rintro v2 nx3 base h hm O
  refine gX ?_
  refine br hm (fun hm=>?_) fun hm=>?_
  ·refine gX ?_
   refine atF hm fun x4 hx4 hm=>?_;refine gX ?_
   refine br hm (fun hm=>?_) fun hm=>?_
   ·refine gX ?_
    exact fe hm O
   ·refine gX ?_
    refine aAdd hm fun hm=>?_;refine gH ?_
    exact jx (v2+1) hm O
  ·refine gX ?_
   exact jx () hm O
 ·clear hm;rintro _ base h hm O
  refine gX ?_
  exact fe hm O
def cmp_Compare_int__wp (p0:Nat) (p1:Nat) (K:Int→Prop):Prop :=
 cmp_isNaN_wp p0 (fun r1=>cmp_isNaN_wp p1 (fun r2=>(r1=true→(r2=true→K (Int.ofNat 0))∧(r2=false→K (Int.negSucc 0)))∧(r1=false→(r2=true→K (Int.ofNat 1))∧(r2=false→((ltN p0 p1)=true→K (Int.negSucc 0))∧((ltN p0 p1)=false→((ltN p1 p0)=true→K (Int.ofNat 1))∧((ltN p1 p0)=false→K (Int.ofNat 0)))))))
theorem cmp_Compare_int__walk {p0:Nat}{p1:Nat}{K:Int→Prop} (hm:cmp_Compare_int__wp p0 p1 K) {h0:Heap} (hB:HasB vars h0):∃ r,K r∧CallD Tryz.prog NG 81 ⟨[i64 p0,i64 p1]⟩ h0 (z64 r) h0:=by
 unfold cmp_Compare_int__wp at hm
 refine fw Tryz.func81 hB (enc:=z64) (fun r=>PureV.flat rfl) fun O=>?_;conv=>whnf
 refine gX ?_
 refine ca (cmp_isNaN_walk hm O.has) fun r1 hm=>?_;refine gX ?_
 refine ca (cmp_isNaN_walk hm O.has) fun r2 hm=>?_;refine gX ?_
 refine br hm (fun hm=>?_) fun hm=>?_
 ·refine gX ?_
  refine br hm (fun hm=>?_) fun hm=>?_
  ·refine gX ?_
   exact fe hm O
  ·refine gX ?_
   exact fe hm O
 ·refine gX ?_
  refine br hm (fun hm=>?_) fun hm=>?_
  ·refine gX ?_
   exact fe hm O
  ·refine gX ?_
   refine br hm (fun hm=>?_) fun hm=>?_
   ·refine gX ?_
    exact fe hm O
   ·refine gX ?_
    refine br hm (fun hm=>?_) fun hm=>?_
    ·refine gX ?_
     exact fe hm O
    ·refine gX ?_
     exact fe hm O
def api_Value__wp (p0:Nat) (p1:Nat) (K:Int→Prop):Prop :=
 ((neN p0 p0)=true→((neN p1 p1)=true→K (Int.ofNat 0))∧((neN p1 p1)=false→K (Int.negSucc 0)))∧((neN p0 p0)=false→((neN p1 p1)=true→K (Int.ofNat 1))∧((neN p1 p1)=false→((ltN p0 p1)=true→K (Int.negSucc 0))∧((ltN p0 p1)=false→((ltN p1 p0)=true→K (Int.ofNat 1))∧((ltN p1 p0)=false→K (Int.ofNat 0)))))
theorem api_Value__walk {p0:Nat}{p1:Nat}{K:Int→Prop} (hm:api_Value__wp p0 p1 K) {h0:Heap} (hB:HasB vars h0):∃ r,K r∧CallD Tryz.prog NG 94 ⟨[n8 p0,n8 p1]⟩ h0 (z64 r) h0:=by
 unfold api_Value__wp at hm
 refine fw Tryz.func94 hB (enc:=z64) (fun r=>PureV.flat rfl) fun O=>?_;conv=>whnf
 refine gX ?_
 refine fg Tryz.func122 ?_;refine gX ?_
 refine fg Tryz.func122 ?_;refine gX ?_
 refine br hm (fun hm=>?_) fun hm=>?_
 ·refine gX ?_
  refine br hm (fun hm=>?_) fun hm=>?_
  ·refine gX ?_
   exact fe hm O
  ·refine gX ?_
   exact fe hm O
 ·refine gX ?_
  refine br hm (fun hm=>?_) fun hm=>?_
  ·refine gX ?_
   exact fe hm O
  ·refine gX ?_
   refine br hm (fun hm=>?_) fun hm=>?_
   ·refine gX ?_
    exact fe hm O
   ·refine gX ?_
    refine br hm (fun hm=>?_) fun hm=>?_
    ·refine gX ?_
     exact fe hm O
    ·refine gX ?_
     exact fe hm O
def learns_order_wp (p0:Asg) (p1:Asg) (K:Int→Prop):Prop :=
 cmp_Compare_int__wp p0.net p1.net (fun r1=>api_Value__wp p0.value p1.value (fun r2=>2=([r1,r2]:(List Int)).length∧cmp_Or_int__wp ([r1,r2]:(List Int)) (fun r5=>K r5)))
theorem learns_order_walk {p0:Asg}{p1:Asg}{K:Int→Prop} (hm:learns_order_wp p0 p1 K) {h0:Heap} (hB:HasB vars h0):∃ r,K r∧CallD Tryz.prog NG 58 ⟨[encAsg p0,encAsg p1]⟩ h0 (z64 r) h0:=by
 unfold learns_order_wp at hm
 refine fw Tryz.func58 hB (enc:=z64) (fun r=>PureV.flat rfl) fun O=>?_;conv=>whnf
 refine gX ?_
 refine fz ?_;refine gH ?_
 refine fz ?_;refine gX ?_
 refine ca (cmp_Compare_int__walk hm O.has) fun r1 hm=>?_;refine gH ?_
 refine⟨.inl (Ext.refl _),?_⟩;refine gH ?_
 refine ca (api_Value__walk hm O.has) fun r2 hm=>?_;refine gH ?_
 refine⟨.inl (Ext.refl _),?_⟩;refine gH ?_
 refine O.buildLX (l:=([r1,r2]:(List Int))) (enc:=z64) (s:=1) (z:=(z64 0)) rfl rfl (by kernel_rfl) (by kernel_rfl) rfl rfl rfl rfl (fun _=>rfl) fun g3 h O=>?_;refine gH ?_
 obtain⟨hn6,hm⟩:=hm
 refine CallD.useB (fun _ hb=>cmp_Or_int__walk hm hb) (fun _=>flatB_ok rfl) fzVars O.has (fun h2 F=>(LLe.cons (O.flatL F (Nat.zero_le _) (.head _) (fun _=>rfl) hn6) (LLe.nil _))) (by kernel_rfl) (fun r5 hm'=>?_);replace hm:=hm';refine gH ?_
 refine⟨.inl (Ext.refl _),?_⟩;refine gH ?_
 refine gX ?_
 exact fe hm O
def learns_order2_wp (p0:Lawv) (p1:Lawv) (K:Int→Prop):Prop :=
 learns_order_wp p0.cond p1.cond (fun r1=>learns_order_wp p0.thn p1.thn (fun r2=>2=([r1,r2]:(List Int)).length∧cmp_Or_int__wp ([r1,r2]:(List Int)) (fun r5=>K r5)))
theorem learns_order2_walk {p0:Lawv}{p1:Lawv}{K:Int→Prop} (hm:learns_order2_wp p0 p1 K) {h0:Heap} (hB:HasB vars h0):∃ r,K r∧CallD Tryz.prog NG 56 ⟨[encLaw p0,encLaw p1]⟩ h0 (z64 r) h0:=by
 unfold learns_order2_wp at hm
 refine fw Tryz.func56 hB (enc:=z64) (fun r=>PureV.flat rfl) fun O=>?_;conv=>whnf
 refine gX ?_
 refine fz ?_;refine gH ?_
 refine fz ?_;refine gX ?_
 first|refine⟨.inr (.inr (rfl)),?_⟩|refine⟨.inr (.inl (by kernel_rfl)),?_⟩
 refine gX ?_
 first|refine⟨.inr (.inr (rfl)),?_⟩|refine⟨.inr (.inl (by kernel_rfl)),?_⟩
 refine gX ?_
 refine ca (learns_order_walk hm O.has) fun r1 hm=>?_;refine gH ?_
 refine⟨.inl (Ext.refl _),?_⟩;refine gH ?_
 first|refine⟨.inr (.inr (rfl)),?_⟩|refine⟨.inr (.inl (by kernel_rfl)),?_⟩
 refine gX ?_
 first|refine⟨.inr (.inr (rfl)),?_⟩|refine⟨.inr (.inl (by kernel_rfl)),?_⟩
 refine gX ?_
 refine ca (learns_order_walk hm O.has) fun r2 hm=>?_;refine gH ?_
 refine⟨.inl (Ext.refl _),?_⟩;refine gH ?_
 refine O.buildLX (l:=([r1,r2]:(List Int))) (enc:=z64) (s:=1) (z:=(z64 0)) rfl rfl (by kernel_rfl) (by kernel_rfl) rfl rfl rfl rfl (fun _=>rfl) fun g3 h O=>?_;refine gH ?_
 obtain⟨hn6,hm⟩:=hm
 refine CallD.useB (fun _ hb=>cmp_Or_int__walk hm hb) (fun _=>flatB_ok rfl) fzVars O.has (fun h2 F=>(LLe.cons (O.flatL F (Nat.zero_le _) (.head _) (fun _=>rfl) hn6) (LLe.nil _))) (by kernel_rfl) (fun r5 hm'=>?_);replace hm:=hm';refine gH ?_
 refine⟨.inl (Ext.refl _),?_⟩;refine gH ?_
 refine gX ?_
 exact fe hm O
def learns_list_wp (p0:(List Nat)) (K:(List Asg)→Prop):Prop :=
 joinW (α:=(List Asg)) (fun k5=>loopW (S:=((List Asg)×Nat)) (fun (v7,v8) nx10=>((ltN v8 p0.length)=true→joinW (α:=(List Asg)) (fun k14=>∃ x15,p0[v8]?=some x15∧((neN x15 2)=true→(v7.length+([(⟨v8,x15⟩:Asg)]:(List Asg)).length)*16≤2 ^ 47∧k14 (v7++([(⟨v8,x15⟩:Asg)]:(List Asg))))∧((neN x15 2)=false→k14 v7)) (fun v12=>v8+1<2 ^ 63∧nx10 (v12,(v8+1))))∧((ltN v8 p0.length)=false→k5 v7)) (([]:List Asg),0)) (fun v3=>K v3)
theorem learns_list_walkO {p0:(List Nat)}{K:(List Asg)→Prop} (hm:learns_list_wp p0 K) {h0:Heap} (hB:HasB vars h0):∃ v h',CallD Tryz.prog NG 54 ⟨[(encL 1 n8) p0]⟩ h0 v h'∧OwnRes vars h0 K (fun (r:(List Asg)) a=>growV 2 a (r.map encAsg)) (fun (r:(List Asg))=>r) encAsg false v h':=by
 unfold learns_list_wp at hm
 refine fg Tryz.func54 (Q:=OwnRes vars h0 K (fun (r:(List Asg)) a=>growV 2 a (r.map encAsg)) (fun (r:(List Asg))=>r) encAsg false) ?_;have O:=Own.start hB;conv=>whnf
 apply Cs;conv=>whnf
 apply Cs;refine gH ?_
 have O:=O.addNil (.cells (flatC ((([]:List Asg)).map encAsg)) false)
 refine jn (σ:=(List Asg)×Option Nat) hm 22 [] (fun s=>s.1) (fun (v3,a2) h=>(a2=none→v3=[])∧Own vars h0 [(a2,.cells (flatC (v3.map encAsg)) false)] h) (fun (v3,a2)=>[(2,(growV 2 a2 (v3.map encAsg)))]) (fun hm=>?_) ?_
 ·refine gX ?_
  refine lw 22 [5,6] (σ:=((List Asg)×Nat)×Option Nat) (fun s=>s.1) (fun ((v7,v8),a6) h=>(a6=none→v7=[])∧Own vars h0 [(a6,.cells (flatC (v7.map encAsg)) false)] h) (fun ((v7,v8),a6)=>[(2,(growV 2 a6 (v7.map encAsg))),(7,(i64 v8))]) ((([]:List Asg),0),none) hm ⟨(fun _=>rfl),O⟩ ?_
  clear hm;rintro⟨⟨v7,v8⟩,a6⟩ nx10 base h hm ⟨ha9,O⟩
  refine gX ?_
  refine br hm (fun hm=>?_) fun hm=>?_
  ·apply Cs;conv=>whnf
   refine jn (σ:=(List Asg)×Option Nat) hm 22 [5,6,7] (fun s=>s.1) (fun (v12,a11) h=>(a11=none→v12=[])∧Own vars h0 [(a11,.cells (flatC (v12.map encAsg)) false)] h) (fun (v12,a11)=>[(2,(growV 2 a11 (v12.map encAsg)))]) (fun hm=>?_) ?_
   ·refine gX ?_
    refine atF hm fun x15 hx15 hm=>?_;refine gX ?_
    refine br hm (fun hm=>?_) fun hm=>?_
    ·refine gX ?_
     refine fz ?_;refine gH ?_
     refine O.apL (enc:=encAsg) (l:=v7) (new:=([(⟨v8,x15⟩:Asg)]:(List Asg))) 2 (.head _) ha9 hm fun a16 h ha17 O hm=>?_;refine gH ?_
     exact jx ((v7++([(⟨v8,x15⟩:Asg)]:(List Asg))),a16) hm ⟨ha17,O⟩
    ·refine gX ?_
     exact jx (v7,a6) hm ⟨ha9,O⟩
   ·clear hm;rintro⟨v12,a11⟩ base h hm ⟨ha13,O⟩
    refine gX ?_
    refine aAdd hm fun hm=>?_;refine gH ?_
    exact jx ((v12,(v8+1)),a11) hm ⟨ha13,O⟩
  ·refine gX ?_
   exact jx (v7,a6) hm ⟨ha9,O⟩
 ·clear hm;rintro⟨v3,a2⟩ base h hm ⟨ha4,O⟩
  refine gX ?_
  exact⟨v3,a2,hm,VLe.refl _ _,ha4,(fun e=>nomatch e),O.sel [0] (by decide)⟩
theorem learns_list_walk {p0:(List Nat)}{K:(List Asg)→Prop} (hm:learns_list_wp p0 K) {h0:Heap} (hB:HasB vars h0):∃ r,K r∧CallD Tryz.prog NG 54 ⟨[(encL 1 n8) p0]⟩ h0 ((encL 2 encAsg) r) h0 :=
 valO (learns_list_walkO hm hB) (fk Tryz.func54) (fun r=>pureL (fun _=>pure_asgC _)) (fun r a h1 h3 O F ha h2=>O.grownL F (Nat.le_refl _) (.head _) ha (fun _=>rfl))
def learns_common_wp (p0:Nat) (p1:Nat) (K:Nat→Prop):Prop :=
 ((eqN p0 p1)=true→K p0)∧((eqN p0 p1)=false→K 2)
theorem learns_common_walk {p0:Nat}{p1:Nat}{K:Nat→Prop} (hm:learns_common_wp p0 p1 K) {h0:Heap} (hB:HasB vars h0):∃ r,K r∧CallD Tryz.prog NG 96 ⟨[n8 p0,n8 p1]⟩ h0 (n8 r) h0:=by
 unfold learns_common_wp at hm
 refine fw Tryz.func96 hB (enc:=n8) (fun r=>PureV.flat rfl) fun O=>?_;conv=>whnf
 refine gX ?_
 refine br hm (fun hm=>?_) fun hm=>?_
 ·refine gX ?_
  exact fe hm O
 ·refine gX ?_
  exact fe hm O
end Go.Proofs.YtfhldkgelipnaaaGreatDoor
