/-
  Proved here: for every input, 'TracesCritical' returns true, ends, panics nowhere, and its arguments read behind the call as they read before.
  Conditions: those of the given card alone ('Rows.TracesCriticalCardSaid'): the variable logic.fanins holds what the row lists, which the card ties to the program's text; no other.
-/
import Derived.Test.YtmhbhclfojmjdaaGreatDoorTb52
import Derived.Test.YtmhbhclfojmjdaaGreatDoorCards
namespace Go.Proofs.YtmhbhclfojmjdaaGreatDoor
open Go.Abs
set_option maxRecDepth 100000
theorem changes_vc {c:Circ} (C:Cir c) {t:List Nat} (ht:t.length=c.nodes.length) {k:Nat}{x:Node} (hx:c.nodes[k]?=some x) (hc:combB x.kind=true) (j:Nat) {K:Bool→Prop} (h:K (chgB c t k j)):traces_changes_wp c t k j K:=by
 have g:=C.good.node k x hx
 have hfew:=g.few
 unfold traces_changes_wp
 refine joinP (fun l=>l=chgL t x.ins j) (fun k1 hk1=>⟨x,hx,?_⟩) ?_
 ·refine loopW_intro (fun s=>s.2≤x.ins.length∧s.1=(chgL t x.ins j).take s.2) (fun s=>x.ins.length-s.2) ?_ ⟨Nat.zero_le _,rfl⟩
  rintro⟨l,i⟩ nx ⟨hi,hl⟩ hnx
  dsimp only at hi hl
  refine⟨fun q=>?_,fun q=>hk1 _ ?_⟩
  ·have q:i<x.ins.length:=lt_t.1 q
   obtain⟨y,hy⟩:=get_lt q
   have hyn:=g.ins y (List.mem_of_getElem? hy)
   have hv:(chgL t x.ins j)[i]?=some (if i=j then notN (t.getD y 0) else t.getD y 0):=by
    unfold chgL
    rw[List.getElem?_mapIdx,hy]
    rfl
   have hll:l.length≤16:=by rw[hl,List.length_take];omega
   refine⟨y,hy,_,getN ht hyn,joinB' (a:=if i=j then notN (t.getD y 0) else t.getD y 0) (fun G=>⟨fun q=>not_vc ?_,fun q=>?_⟩) ⟨by simp only[List.length_cons,List.length_nil];omega,by omega,hnx _ ⟨q,?_⟩ (by dsimp only;omega)⟩⟩
   ·rw[if_pos (eq_t.1 q)] at G;exact G
   ·rw[if_neg (eq_f.1 q)] at G;exact G
   ·dsimp only
    rw[hl,takeG hv]
  ·have q:x.ins.length≤i:=lt_f.1 q
   rw[hl,List.take_of_length_le (by unfold chgL;rw[List.length_mapIdx];exact q)]
 ·rintro _ rfl
  refine⟨x,hx,evalNode C hx hc (by unfold chgL;rw[List.length_mapIdx]) ⟨_,getN ht (lt_of_get hx),?_⟩⟩
  unfold chgB at h
  rw[kd_eq hx,insOf_eq hx] at h
  exact h
theorem nodupLen {α:Type} [DecidableEq α]:∀ {l m:List α},l.Nodup→(∀ x∈l,x∈m)→l.length≤m.length
 |[],_,_,_=>Nat.zero_le _
 |a::l,m,hn,hs=>by
  obtain⟨h1,h2⟩:=List.nodup_cons.1 hn
  have ha:a∈m:=hs a (.head _)
  have:=nodupLen (m:=m.erase a) h2 fun x hx=>(List.mem_erase_of_ne (fun e=>h1 (by rw[← e];exact hx))).2 (hs x (.tail _ hx))
  rw[List.length_erase_of_mem ha] at this
  have:=List.length_pos_of_mem ha
  rw[List.length_cons]
  omega
theorem nodup_snoc {α:Type}{l:List α}{a:α}:(l++[a]).Nodup↔l.Nodup∧a ∉ l:=by
 rw[List.nodup_append]
 constructor
 ·rintro⟨h1,_,h3⟩
  exact⟨h1,fun m=>h3 a m a (.head _) rfl⟩
 ·rintro⟨h1,h2⟩
  refine⟨h1,List.pairwise_singleton _ _,fun x hx y hy e=>h2 ?_⟩
  rw[List.mem_singleton] at hy
  rw[← hy,← e];exact hx
structure Wk (c:Circ) (t:List Nat) (s:Nat) (out:List LnZ) (st:List Nat) (k j:Nat):Prop where
 nd:out.Nodup
 sub:∀ l∈out,InW c t s l
 snd:st.Nodup
 stn:∀ q∈st,(⟨q,Int.negSucc 0⟩:LnZ)∈out∧∀ i:Nat,(⟨q,Int.ofNat i⟩:LnZ) ∉ out
 root:(⟨s,Int.negSucc 0⟩:LnZ)∈out
 par:∀ m,(⟨m,Int.negSucc 0⟩:LnZ)∈out→m=s∨∃ a b,(insOf c a)[b]?=some m∧(⟨a,Int.ofNat b⟩:LnZ)∈out
 cls:∀ q,(⟨q,Int.negSucc 0⟩:LnZ)∈out→q ∉ st→∀ i x y,(q=k→i<j)→c.nodes[q]?=some x→combB x.kind=true→x.ins[i]?=some y→chgB c t q i=true→(⟨q,Int.ofNat i⟩:LnZ)∈out∧(manyN c y=1→(⟨y,Int.negSucc 0⟩:LnZ)∈out)
 free:∀ i,j≤i→(⟨k,Int.ofNat i⟩:LnZ) ∉ out
 kst:k ∉ st
 own:∀ q i,(⟨q,Int.ofNat i⟩:LnZ)∈out→(⟨q,Int.negSucc 0⟩:LnZ)∈out
theorem Wk.start {c:Circ}{t:List Nat}{s:Nat} (hs:s<c.nodes.length):Wk c t s [⟨s,Int.negSucc 0⟩] [s] c.nodes.length 0 where
 nd:=List.pairwise_singleton _ _
 sub l h:=by rw[List.mem_singleton] at h;subst h;exact⟨.base,.inl rfl⟩
 snd:=List.pairwise_singleton _ _
 stn q h:=by rw[List.mem_singleton] at h;subst h;exact⟨.head _,fun i m=>by rw[List.mem_singleton] at m;cases m⟩
 root:=.head _
 par m h:=by rw[List.mem_singleton] at h;cases h;exact .inl rfl
 cls q h1 h2:=by rw[List.mem_singleton] at h1;cases h1;exact absurd (.head _) h2
 free i _ m:=by rw[List.mem_singleton] at m;cases m
 kst m:=by rw[List.mem_singleton] at m;omega
 own q i m:=by rw[List.mem_singleton] at m;cases m
theorem Wk.enter {c:Circ}{t:List Nat}{s k:Nat}{out:List LnZ}{st:List Nat} (W:Wk c t s out (st++[k]) c.nodes.length 0):Wk c t s out st k 0 where
 nd:=W.nd
 sub:=W.sub
 snd:=(nodup_snoc.1 W.snd).1
 stn q h:=W.stn q (List.mem_append.2 (.inl h))
 root:=W.root
 par:=W.par
 cls q h1 h2 i x y h3 hx:=W.cls q h1 (fun m=>by
  rcases List.mem_append.1 m with m|m
  ·exact h2 m
  ·rw[List.mem_singleton] at m
   exact absurd (h3 m) (Nat.not_lt_zero _)) i x y (fun e=>by have:=lt_of_get hx;omega) hx
 free i _:=(W.stn k (List.mem_append.2 (.inr (.head _)))).2 i
 kst:=(nodup_snoc.1 W.snd).2
 own:=W.own
theorem Wk.leave {c:Circ}{t:List Nat}{s k j:Nat}{out:List LnZ}{st:List Nat} (hs:s<c.nodes.length) (C:Cir c) (W:Wk c t s out st k j) (hk:∀ x,c.nodes[k]?=some x→combB x.kind=true→x.ins.length≤j):Wk c t s out st c.nodes.length 0 where
 nd:=W.nd
 sub:=W.sub
 snd:=W.snd
 stn:=W.stn
 root:=W.root
 par:=W.par
 cls q h1 h2 i x y _ hx hc hi:=W.cls q h1 h2 i x y (fun e=>by subst e;have:=hk x hx hc;have:=lt_of_get hi;omega) hx hc hi
 free i _ m:=by
  have:=(W.sub _ m).1.lt C hs
  dsimp only at this
  omega
 kst m:=by
  have:=(W.sub _ (W.stn _ m).1).1.lt C hs
  dsimp only at this
  omega
 own:=W.own
theorem Wk.step0 {c:Circ}{t:List Nat}{s k j:Nat}{out:List LnZ}{st:List Nat} (W:Wk c t s out st k j) (h:chgB c t k j=false):Wk c t s out st k (j+1) where
 nd:=W.nd
 sub:=W.sub
 snd:=W.snd
 stn:=W.stn
 root:=W.root
 par:=W.par
 cls q h1 h2 i x y h3 hx hc hi hg:=W.cls q h1 h2 i x y (fun e=>by
  have:=h3 e
  by_cases q:i=j
  ·subst q;rw[e,h] at hg;cases hg
  ·omega) hx hc hi hg
 free i hi:=W.free i (by omega)
 kst:=W.kst
 own:=W.own
theorem snoc_mem {α:Type}{l:List α}{a b:α}:a∈l++[b]↔a∈l∨a=b:=by rw[List.mem_append,List.mem_singleton]
theorem Wk.step1 {c:Circ}{t:List Nat}{s k j y:Nat}{x:Node}{out:List LnZ}{st:List Nat} (W:Wk c t s out st k j) (hx:c.nodes[k]?=some x) (hc:combB x.kind=true) (hj:x.ins[j]?=some y) (hk:(⟨k,Int.negSucc 0⟩:LnZ)∈out) (h:chgB c t k j=true) (hm:manyN c y≠1):Wk c t s (out++[⟨k,Int.ofNat j⟩]) st k (j+1) where
 nd:=nodup_snoc.2 ⟨W.nd,W.free j (Nat.le_refl _)⟩
 sub l m:=by
  rcases snoc_mem.1 m with m|rfl
  ·exact W.sub l m
  ·exact⟨(W.sub _ hk).1,.inr ⟨j,x,rfl,hx,hc,lt_of_get hj,h⟩⟩
 snd:=W.snd
 stn q m:=by
  obtain⟨h1,h2⟩:=W.stn q m
  refine⟨snoc_mem.2 (.inl h1),fun i m2=>?_⟩
  rcases snoc_mem.1 m2 with m2|e
  ·exact h2 i m2
  ·cases e;exact W.kst m
 root:=snoc_mem.2 (.inl W.root)
 par m hm:=by
  rcases snoc_mem.1 hm with hm|e
  ·rcases W.par m hm with e|⟨a,b,h1,h2⟩
   ·exact .inl e
   ·exact .inr ⟨a,b,h1,snoc_mem.2 (.inl h2)⟩
  ·cases e
 cls q h1 h2 i x' y' h3 hx' hc' hi hg:=by
  have h1:(⟨q,Int.negSucc 0⟩:LnZ)∈out:=by
   rcases snoc_mem.1 h1 with m|e
   ·exact m
   ·cases e
  by_cases e:q=k∧i=j
  ·obtain⟨rfl,rfl⟩:=e
   rw[hx] at hx';cases hx'
   rw[hj] at hi;cases hi
   exact⟨snoc_mem.2 (.inr rfl),fun e=>absurd e hm⟩
  ·obtain⟨a,b⟩:=W.cls q h1 h2 i x' y' (fun e2=>by have:=h3 e2;have:i≠j:=fun e3=>e ⟨e2,e3⟩;omega) hx' hc' hi hg
   exact⟨snoc_mem.2 (.inl a),fun e=>snoc_mem.2 (.inl (b e))⟩
 free i hi m:=by
  rcases snoc_mem.1 m with m|e
  ·exact W.free i (by omega) m
  ·have:=congrArg LnZ.pin e
   have:i=j:=Int.ofNat.inj this
   omega
 kst:=W.kst
 own q i m:=by
  rcases snoc_mem.1 m with m|e
  ·exact snoc_mem.2 (.inl (W.own q i m))
  ·have:=congrArg LnZ.node e
   dsimp only at this
   subst this
   exact snoc_mem.2 (.inl hk)
theorem Wk.step2 {c:Circ} (C:Cir c) {t:List Nat}{s k j y:Nat}{x:Node}{out:List LnZ}{st:List Nat} (W:Wk c t s out st k j) (hx:c.nodes[k]?=some x) (hc:combB x.kind=true) (hj:x.ins[j]?=some y) (hk:(⟨k,Int.negSucc 0⟩:LnZ)∈out) (h:chgB c t k j=true) (hm:manyN c y=1):Wk c t s ((out++[⟨k,Int.ofNat j⟩])++[⟨y,Int.negSucc 0⟩]) (st++[y]) k (j+1):=by
 have o:=one_of hm (by rw[insOf_eq hx];exact hj)
 have hlt:=ins_lt C hx hc (List.mem_of_getElem? hj)
 have hr:=(W.sub _ hk).1
 have hle:=hr.le C
 dsimp only at hle
 have hpin:(⟨k,Int.ofNat j⟩:LnZ) ∉ out:=W.free j (Nat.le_refl _)
 have hnew:(⟨y,Int.negSucc 0⟩:LnZ) ∉ out:=by
  intro m
  rcases W.par y m with e|⟨a,b,h1,h2⟩
  ·omega
  ·obtain⟨rfl,rfl⟩:=o.only a b h1
   exact hpin h2
 have up:∀ {l},l∈out→l∈(out++[(⟨k,Int.ofNat j⟩:LnZ)])++[⟨y,Int.negSucc 0⟩]:=fun m=>snoc_mem.2 (.inl (snoc_mem.2 (.inl m)))
 have net:∀ q,(⟨q,Int.negSucc 0⟩:LnZ)∈(out++[(⟨k,Int.ofNat j⟩:LnZ)])++[⟨y,Int.negSucc 0⟩]→(⟨q,Int.negSucc 0⟩:LnZ)∈out∨q=y:=by
  intro q m
  rcases snoc_mem.1 m with m|e
  ·rcases snoc_mem.1 m with m|e
   ·exact .inl m
   ·cases e
  ·cases e;exact .inr rfl
 have pin:∀ q i,(⟨q,Int.ofNat i⟩:LnZ)∈(out++[(⟨k,Int.ofNat j⟩:LnZ)])++[⟨y,Int.negSucc 0⟩]→(⟨q,Int.ofNat i⟩:LnZ)∈out∨(q=k∧i=j):=by
  intro q i m
  rcases snoc_mem.1 m with m|e
  ·rcases snoc_mem.1 m with m|e
   ·exact .inl m
   ·cases e;exact .inr ⟨rfl,rfl⟩
  ·cases e
 refine⟨nodup_snoc.2 ⟨nodup_snoc.2 ⟨W.nd,hpin⟩,fun m=>?_⟩,fun l m=>?_,nodup_snoc.2 ⟨W.snd,fun m=>hnew (W.stn y m).1⟩,fun q m=>?_,up W.root,fun m hm'=>?_,fun q h1 h2 i x' y' h3 hx' hc' hi hg=>?_,fun i hi m=>?_,fun m=>?_,fun q i m=>?_⟩
 ·rcases snoc_mem.1 m with m|e
  ·exact hnew m
  ·cases e
 ·rcases snoc_mem.1 m with m|rfl
  ·rcases snoc_mem.1 m with m|rfl
   ·exact W.sub l m
   ·exact⟨hr,.inr ⟨j,x,rfl,hx,hc,lt_of_get hj,h⟩⟩
  ·exact⟨hr.step hx hc hj h hm,.inl rfl⟩
 ·rcases snoc_mem.1 m with m|rfl
  ·obtain⟨h1,h2⟩:=W.stn q m
   refine⟨up h1,fun i m2=>?_⟩
   rcases pin q i m2 with m2|⟨rfl,rfl⟩
   ·exact h2 i m2
   ·exact W.kst m
  ·refine⟨snoc_mem.2 (.inr rfl),fun i m2=>?_⟩
   rcases pin q i m2 with m2|⟨rfl,rfl⟩
   ·exact hnew (W.own q i m2)
   ·omega
 ·rcases net m hm' with hm' | rfl
  ·rcases W.par m hm' with e|⟨a,b,h1,h2⟩
   ·exact .inl e
   ·exact .inr ⟨a,b,h1,up h2⟩
  ·exact .inr ⟨k,j,o.pin,snoc_mem.2 (.inl (snoc_mem.2 (.inr rfl)))⟩
 ·have h1:(⟨q,Int.negSucc 0⟩:LnZ)∈out:=by
   rcases net q h1 with m|rfl
   ·exact m
   ·exact absurd (snoc_mem.2 (.inr rfl)) h2
  by_cases e:q=k∧i=j
  ·obtain⟨rfl,rfl⟩:=e
   rw[hx] at hx';cases hx'
   rw[hj] at hi;cases hi
   exact⟨snoc_mem.2 (.inl (snoc_mem.2 (.inr rfl))),fun _=>snoc_mem.2 (.inr rfl)⟩
  ·obtain⟨a,b⟩:=W.cls q h1 (fun m=>h2 (snoc_mem.2 (.inl m))) i x' y' (fun e2=>by have:=h3 e2;have:i≠j:=fun e3=>e ⟨e2,e3⟩;omega) hx' hc' hi hg
   exact⟨up a,fun e=>up (b e)⟩
 ·rcases pin k i m with m|⟨_,e⟩
  ·exact W.free i (by omega) m
  ·omega
 ·rcases snoc_mem.1 m with m|e
  ·exact W.kst m
  ·omega
 ·rcases pin q i m with m|⟨rfl,rfl⟩
  ·exact up (W.own q i m)
  ·exact up hk
theorem Wk.fin {c:Circ}{t:List Nat}{s:Nat}{out:List LnZ} (W:Wk c t s out [] c.nodes.length 0) (l:LnZ):l∈out↔InW c t s l:=by
 refine⟨W.sub l,fun h=>?_⟩
 have key:∀ m,Rch c t s m→(⟨m,Int.negSucc 0⟩:LnZ)∈out:=by
  intro m h
  induction h with
  |base=>exact W.root
  |step _ hx hc hj hg h1 ih=>exact (W.cls _ ih (by simp) _ _ _ (fun e=>by have:=lt_of_get hx;omega) hx hc hj hg).2 h1
 obtain⟨h1,h2⟩:=h
 obtain⟨a,b⟩:=l
 dsimp only at h1 h2
 rcases h2 with rfl|⟨j,x,rfl,hx,hc,hj,hg⟩
 ·exact key a h1
 ·obtain⟨y,hy⟩:=get_lt hj
  exact (W.cls a (key a h1) (by simp) j x y (fun e=>by have:=lt_of_get hx;omega) hx hc hy hg).1
theorem linesN_len {c:Circ} (C:Cir c):(linesN c).length≤272:=by
 have:=linesTo_len C c.nodes.length (Nat.le_refl _)
 have:=C.len
 unfold linesN
 omega
theorem inW_mem {c:Circ} (C:Cir c) {t:List Nat}{s:Nat}{l:LnZ} (hs:s<c.nodes.length) (h:InW c t s l):l∈linesN c:=by
 obtain⟨h1,h2⟩:=h
 refine line_mem.2 ⟨h1.lt C hs,?_⟩
 rcases h2 with h2|⟨j,x,h2,hx,_,hj,_⟩
 ·exact .inl h2
 ·exact .inr ⟨j,h2,by rw[insOf_eq hx];exact hj⟩
theorem walk_vc {c:Circ} (P:Plz c) {t:List Nat} (ht:t.length=c.nodes.length) {s:Nat} (hs:s<c.nodes.length) {K:List LnZ→Prop} (h:∀ r,r.Nodup→(∀ l,l∈r↔InW c t s l)→K r):traces_walk_wp c t (manyL c) s K:=by
 have C:=P.cir
 have hlen:=C.len
 have hL:=linesN_len C
 have bound:∀ {out:List LnZ} {st:List Nat} {k j:Nat},Wk c t s out st k j→out.length≤272:=fun W=>Nat.le_trans (nodupLen W.nd fun l m=>inW_mem C hs (W.sub l m)) hL
 have stb:∀ {out:List LnZ} {st:List Nat} {k j:Nat},Wk c t s out st k j→st.length≤16:=by
  intro out st k j W
  have:=nodupLen (m:=List.range c.nodes.length) W.snd fun q m=>List.mem_range.2 (by
   have:=(W.sub _ (W.stn q m).1).1.lt C hs
   exact this)
  rw[List.length_range] at this
  omega
 unfold traces_walk_wp
 refine joinLoop (fun q=>Wk c t s q.1 q.2 c.nodes.length 0) (fun q=>2*(272-q.1.length)+q.2.length) (fun r=>r.Nodup∧∀ l,l∈r↔InW c t s l) ?_ (Wk.start hs) (fun r ⟨h1,h2⟩=>⟨List.length_pos_of_mem ((h2 ⟨s,Int.negSucc 0⟩).2 ⟨.base,.inl rfl⟩),h r h1 h2⟩)
 rintro kk ⟨out,st⟩ nx W hnx hk
 dsimp only at W hnx
 refine⟨fun q=>?_,fun q=>hk _ ?_⟩
 ·have q:0<st.length:=lt_t.1 q
  have b2:=stb W
  obtain⟨k,hkk⟩:=get_lt (show st.length-1<st.length by omega)
  have est:st=st.take (st.length-1)++[k]:=by
   rw[← takeG hkk,List.take_of_length_le (by omega)]
  have hko:(⟨k,Int.negSucc 0⟩:LnZ)∈out:=(W.stn k (List.mem_of_getElem? hkk)).1
  have hkn:k<c.nodes.length:=(W.sub _ hko).1.lt C hs
  obtain⟨x,hx⟩:=get_lt hkn
  have hfew:=(C.good.node k x hx).few
  have W0:Wk c t s out (st.take (st.length-1)) k 0:=by
   rw[est] at W
   exact W.enter
  have hl0:(st.take (st.length-1)).length=st.length-1:=by rw[List.length_take];omega
  refine⟨q,by omega,k,hkk,q,by omega,by omega,x,hx,fun e=>?_,fun e=>⟨x,hx,?_⟩⟩
  ·refine hnx _ (W0.leave hs C fun x' hx' hc=>?_) (by dsimp only;omega)
   rw[hx] at hx';cases hx'
   have:=eq_t.1 e
   have:=of_decide_eq_true hc
   omega
  ·have e:=eq_f.1 e
   refine loopW_intro (fun q=>q.2.2≤x.ins.length∧Wk c t s q.1 q.2.1 k q.2.2∧(⟨k,Int.negSucc 0⟩:LnZ)∈q.1∧2*out.length+q.2.1.length≤2*q.1.length+(st.length-1)) (fun q=>x.ins.length-q.2.2) ?_ ⟨Nat.zero_le _,W0,hko,by dsimp only;omega⟩
   rintro⟨o2,s2,j⟩ nx2 ⟨hj,W2,hk2,hb⟩ hnx2
   dsimp only at hj W2 hk2 hb
   refine⟨fun q=>?_,fun q=>?_⟩
   ·have q:j<x.ins.length:=lt_t.1 q
    obtain⟨y,hy⟩:=get_lt q
    have hc:=pin_comb P hx hy e
    have b3:=bound W2
    have b4:=stb W2
    have hyn:=(C.good.node k x hx).ins y (List.mem_of_getElem? hy)
    refine joinP (fun r=>Wk c t s r.1 r.2 k (j+1)∧(⟨k,Int.negSucc 0⟩:LnZ)∈r.1∧2*out.length+r.2.length≤2*r.1.length+(st.length-1)) (fun k3 hk3=>⟨y,hy,changes_vc C ht hx hc j ⟨fun e1=>?_,fun e1=>⟨?_,_,manyL_get hyn,fun e2=>⟨?_,?_,?_⟩,fun e2=>?_⟩⟩⟩) ?_
    ·have e1:chgB c t k j=false:=by revert e1;cases chgB c t k j <;> simp
     exact hk3 _ ⟨W2.step0 e1,hk2,hb⟩
    ·simp only[List.length_singleton];omega
    ·simp only[List.length_append,List.length_singleton];omega
    ·simp only[List.length_singleton];omega
    ·have e1:chgB c t k j=true:=by revert e1;cases chgB c t k j <;> simp
     refine hk3 _ ⟨W2.step2 C hx hc hy hk2 e1 (eq_t.1 e2),snoc_mem.2 (.inl (snoc_mem.2 (.inl hk2))),?_⟩
     simp only[List.length_append,List.length_singleton];omega
    ·have e1:chgB c t k j=true:=by revert e1;cases chgB c t k j <;> simp
     refine hk3 _ ⟨W2.step1 hx hc hy hk2 e1 (eq_f.1 e2),snoc_mem.2 (.inl hk2),?_⟩
     simp only[List.length_append,List.length_singleton];omega
    ·rintro⟨o3,s3⟩ ⟨W3,h3,h4⟩
     exact⟨by omega,hnx2 _ ⟨q,W3,h3,h4⟩ (by dsimp only;omega)⟩
   ·have q:x.ins.length≤j:=lt_f.1 q
    have b3:=bound W2
    refine hnx _ (W2.leave hs C fun x' hx' hc=>?_) ?_
    ·rw[hx] at hx';cases hx';exact q
    ·dsimp only;omega
 ·have q:st.length≤0:=lt_f.1 q
  have:st=[]:=List.length_eq_zero_iff.1 (by omega)
  subst this
  exact⟨W.nd,W.fin⟩
def dffPins (c:Circ) (m:Nat):List LnZ:=((fanOf c m).map Ln.toZ).filter fun l=>kd c l.node==14
theorem critical_vc {c:Circ} (P:Plz c) {p:Pat} (F:Full c p) {K:List LnZ→Prop} (h:∀ r,r.Nodup→(∀ l,l∈r↔l∈linesN c∧critL c p l=true)→K r):traces_critical_wp c p K:=by
 have C:=P.cir
 have hp:=F.pat
 have hlen:=C.len
 have hol:=C.good.outsLen
 have V:=V_sol C hp
 have hL:=linesN_len C
 unfold traces_critical_wp
 refine runV_vc C hp (loads_wp_vc C ?_)
 have inL:∀ {m:Nat} {l:LnZ},m<c.nodes.length→PartW c p m l→l∈linesN c:=fun hm hq=>((part_crit P F).1 ⟨_,hm,hq⟩).1
 refine joinLoop (fun s=>s.2≤c.nodes.length∧s.1.Nodup∧∀ l,l∈s.1 ↔ ∃ m,m<s.2∧PartW c p m l) (fun s=>c.nodes.length-s.2) (fun r=>r.Nodup∧∀ l,l∈r↔l∈linesN c∧critL c p l=true) ?_ ⟨Nat.zero_le _,List.nodup_nil,fun l=>⟨(fun m=>by cases m),fun ⟨m,hm,_⟩=>absurd hm (Nat.not_lt_zero _)⟩⟩ (fun r ⟨h1,h2⟩=>h r h1 h2)
 rintro k ⟨out,n⟩ nx ⟨hn,nd,mem⟩ hnx hk
 dsimp only at hn nd mem
 refine⟨fun q=>?_,fun q=>hk _ ⟨nd,fun l=>?_⟩⟩
 ·have q:n<c.nodes.length:=lt_t.1 q
  have hfl:=fan_len C.good q
  have bout:∀ {r:List LnZ},r.Nodup→(∀ l∈r,∃ m,m<n+1∧PartW c p m l)→r.length≤272:=fun h1 h2=>Nat.le_trans (nodupLen h1 fun l hl=>by
    obtain⟨m,hm,hq⟩:=h2 l hl
    exact inL (by omega) hq) hL
  refine joinP (fun r=>r.Nodup∧∀ l,l∈r ↔ ∃ m,m<n+1∧PartW c p m l) (fun k1 hk1=>containsI_vc (by omega) ?_) ?_
  ·
    refine joinB' (a:=c.outs.contains n||(decide (1<manyN c n)&&critN c p n)) (fun G=>?_) ?_
    · refine joinB' (a := !c.outs.contains n&&decide (1<manyN c n)) (fun G2=>⟨fun e=>⟨_,manyL_get q,?_⟩,fun e=>?_⟩) ⟨fun e=>⟨_,getN V.len q,not_vc ?_⟩,fun e=>?_⟩
      ·have e:c.outs.contains n=false:=nb_t e
       have:ltN 1 (manyN c n)=(!c.outs.contains n&&decide (1<manyN c n)):=by rw[ltN_eq,e];rfl
       rw[this];exact G2
      ·have e:c.outs.contains n=true:=nb_f e
       have e2:(!c.outs.contains n&&decide (1<manyN c n))=false:=by rw[e];rfl
       rw[e2] at G2;exact G2
      ·refine detects_vc C hp ⟨rfl,?_,rfl,q,show (-1:Int)≤Int.negSucc 0 by decide,?_⟩ ?_
       ·have:=V_bin P F n
        dsimp only
        rw[notN_bin this];omega
       ·exact Int.lt_of_lt_of_le (show Int.negSucc 0<0 by decide) (Int.natCast_nonneg _)
       ·rw[Bool.and_eq_true,Bool.not_eq_true'] at e
        rw[e.1,e.2,Bool.false_or,Bool.true_and] at G
        rw[det_net]
        exact G
      ·rw[Bool.and_eq_false_iff,Bool.not_eq_false'] at e
       rcases e with e|e
       ·rw[e,Bool.true_or] at G;rw[e];exact G
       ·rw[e,Bool.false_and,Bool.or_false] at G;exact G
    ·
      have es:startB c p n=((c.outs.contains n||(decide (1<manyN c n)&&critN c p n))||((fanOf c n).map Ln.toZ).any fun l=>kd c l.node==14):=by
       unfold startB
       rw[List.any_map]
       rfl
      have hdl:(((fanOf c n).map Ln.toZ).filter fun l=>kd c l.node==14).length≤1000:=Nat.le_trans (List.length_filter_le _ _) (by rw[List.length_map];exact hfl)
      have hnd:(dffPins c n).Nodup:=by
       refine List.Pairwise.filter _ (List.pairwise_map.2 ?_)
       refine (fan_nodup c n).imp fun {a b} hab e=>hab ?_
       obtain⟨a1,a2⟩:=a
       obtain⟨b1,b2⟩:=b
       unfold Ln.toZ at e
       cases e
       rfl
      have hdm:∀ l,l∈dffPins c n↔(l∈(fanOf c n).map Ln.toZ∧kd c l.node=14):=fun l=>by
       unfold dffPins
       rw[List.mem_filter,beq_iff_eq]
      have nd2:(out++dffPins c n).Nodup:=by
       refine List.nodup_append.2 ⟨nd,hnd,fun a ha b hb e=>?_⟩
       subst e
       obtain⟨m,hm,hq⟩:=(mem a).1 ha
       have:=part_uniq hq (.inl ((hdm a).1 hb))
       omega
      refine joinP (fun r=>r=(out++dffPins c n,startB c p n)) (fun k2 hk2=>⟨_,fanZ_get q,?_⟩) ?_
      ·have bo:=bout nd (fun l hl=>by obtain⟨m,hm,hq⟩:=(mem l).1 hl;exact⟨m,by omega,hq⟩)
       refine loopW_intro (fun s=>s.2.2≤(fanOf c n).length∧s.1=out++(((fanOf c n).map Ln.toZ).take s.2.2).filter (fun l=>kd c l.node==14)∧s.2.1=((c.outs.contains n||(decide (1<manyN c n)&&critN c p n))||(((fanOf c n).map Ln.toZ).take s.2.2).any fun l=>kd c l.node==14)) (fun s=>(fanOf c n).length-s.2.2) ?_ ⟨Nat.zero_le _,by simp,by simp⟩
       rintro⟨o2,b,j⟩ nx2 ⟨hj,ho2,hb⟩ hnx2
       dsimp only at hj ho2 hb
       refine⟨fun q2=>?_,fun q2=>?_⟩
       ·have q2:j<(fanOf c n).length:=by have:=lt_t.1 q2;rwa [List.length_map] at this
        obtain⟨l0,hl0⟩:=get_lt q2
        have hl:((fanOf c n).map Ln.toZ)[j]?=some l0.toZ:=by rw[List.getElem?_map,hl0];rfl
        have hln:l0.node<c.nodes.length:=fan_lt (List.mem_of_getElem? hl0)
        obtain⟨y,hy⟩:=get_lt hln
        have hb2:((((fanOf c n).map Ln.toZ).take j).filter fun l=>kd c l.node==14).length≤1000:=Nat.le_trans (List.length_filter_le _ _) (by rw[List.length_take,List.length_map];omega)
        refine joinP (fun r=>r.1=out++(((fanOf c n).map Ln.toZ).take (j+1)).filter (fun l=>kd c l.node==14)∧r.2=((c.outs.contains n||(decide (1<manyN c n)&&critN c p n))||(((fanOf c n).map Ln.toZ).take (j+1)).any fun l=>kd c l.node==14)) (fun k3 hk3=>⟨_,hl,y,hy,fun e=>⟨?_,hk3 _ ⟨?_,?_⟩⟩,fun e=>hk3 _ ⟨?_,?_⟩⟩) ?_
        ·rw[ho2,List.length_append]
         simp only[List.length_singleton]
         omega
        ·have e:kd c l0.toZ.node=14:=by rw[← eq_t.1 e];exact kd_eq hy
         dsimp only
         rw[ho2,takeG hl,List.filter_append,List.append_assoc]
         congr 2
         rw[List.filter_cons,e]
         rfl
        ·have e:kd c l0.toZ.node=14:=by rw[← eq_t.1 e];exact kd_eq hy
         dsimp only
         rw[takeG hl,List.any_append]
         simp[e]
        ·have e:¬ kd c l0.toZ.node=14:=by rw[show kd c l0.toZ.node=y.kind from kd_eq hy];exact eq_f.1 e
         dsimp only
         rw[ho2,takeG hl,List.filter_append]
         congr 1
         rw[List.filter_cons,if_neg (by simpa using e)]
         simp
        ·have e:¬ kd c l0.toZ.node=14:=by rw[show kd c l0.toZ.node=y.kind from kd_eq hy];exact eq_f.1 e
         have e':(kd c l0.toZ.node==14)=false:=by simpa using e
         dsimp only
         rw[hb,takeG hl,List.any_append,List.any_cons,e',List.any_nil]
         simp only[Bool.or_false]
        ·rintro⟨o3,b3⟩ ⟨h3,h4⟩
         exact⟨by omega,hnx2 _ ⟨q2,h3,h4⟩ (by dsimp only;omega)⟩
       ·have q2:(fanOf c n).length≤j:=by have:=lt_f.1 q2;rwa [List.length_map] at this
        rw[List.take_of_length_le (by rw[List.length_map];exact q2)] at ho2 hb
        refine hk2 _ ?_
        rw[ho2,hb,es]
        rfl
      ·rintro _ rfl
       refine⟨fun e=>walk_vc P V.len q fun r hr1 hr2=>?_,fun e=>hk1 _ ⟨nd2,fun l=>?_⟩⟩
       ·have e:startB c p n=true:=e
        have hrl:r.length≤272:=Nat.le_trans (nodupLen hr1 fun l hl=>inW_mem C q ((hr2 l).1 hl)) hL
        have bo:=bout nd2 (fun l hl=>by
         rcases List.mem_append.1 hl with hl|hl
         ·obtain⟨m,hm,hq⟩:=(mem l).1 hl;exact⟨m,by omega,hq⟩
         ·exact⟨n,by omega,.inl ((hdm l).1 hl)⟩)
        refine⟨by omega,hk1 _ ⟨List.nodup_append.2 ⟨nd2,hr1,fun a ha b hb e2=>?_⟩,fun l=>?_⟩⟩
        ·subst e2
         have hb:=(hr2 a).1 hb
         rcases List.mem_append.1 ha with ha|ha
         ·obtain⟨m,hm,hq⟩:=(mem a).1 ha
          have:=part_uniq hq (.inr ⟨e,hb⟩)
          omega
         ·have ha:=(hdm a).1 ha
          obtain⟨j,e3,_⟩:=toZ_mem.1 ha.1
          rcases hb.2 with e4|⟨j',x,_,hx,hc,_⟩
          ·rw[e3] at e4;cases e4
          ·have:=ha.2
           rw[kd_eq hx] at this
           have:=of_decide_eq_true hc
           omega
        ·rw[List.mem_append,List.mem_append,mem,hdm,hr2]
         constructor
         ·rintro ((⟨m,hm,hq⟩|hq) | hq)
          ·exact⟨m,by omega,hq⟩
          ·exact⟨n,by omega,.inl hq⟩
          ·exact⟨n,by omega,.inr ⟨e,hq⟩⟩
         ·rintro⟨m,hm,hq⟩
          by_cases e2:m=n
          ·subst e2
           rcases hq with hq|hq
           ·exact .inl (.inr hq)
           ·exact .inr hq.2
          ·exact .inl (.inl ⟨m,by omega,hq⟩)
       ·have e:startB c p n=false:=e
        rw[List.mem_append,mem,hdm]
        constructor
        ·rintro (⟨m,hm,hq⟩|hq)
         ·exact⟨m,by omega,hq⟩
         ·exact⟨n,by omega,.inl hq⟩
        ·rintro⟨m,hm,hq⟩
         by_cases e2:m=n
         ·subst e2
          rcases hq with hq|hq
          ·exact .inr hq
          ·rw[e] at hq;cases hq.1
         ·exact .inl ⟨m,by omega,hq⟩
  · rintro r ⟨h1,h2⟩
    exact⟨by omega,hnx _ ⟨q,h1,h2⟩ (by dsimp only;omega)⟩
 ·have q:c.nodes.length≤n:=lt_f.1 q
  have e:n=c.nodes.length:=by omega
  subst e
  rw[mem]
  exact part_crit P F
theorem linesN_sorted (c:Circ):(linesN c).Pairwise fun x y=>x.node<y.node∨x.node=y.node∧x.pin<y.pin:=by
 unfold linesN linesTo
 refine List.pairwise_flatMap.2 ⟨fun i _=>?_,?_⟩
 ·unfold rowL
  refine List.pairwise_map.2 (List.pairwise_lt_range.imp fun {a b} h=>.inr ⟨rfl,?_⟩)
  simp only[Int.ofNat_eq_natCast];omega
 ·refine List.pairwise_lt_range.imp fun {a b} h x hx y hy=>.inl ?_
  unfold rowL at hx hy
  obtain⟨i,_,rfl⟩:=List.mem_map.1 hx
  obtain⟨j,_,rfl⟩:=List.mem_map.1 hy
  exact h
theorem sorted_eq:∀ {l m:List LnZ},l.Pairwise (fun x y=>x.node<y.node∨x.node=y.node∧x.pin<y.pin)→m.Pairwise (fun x y=>x.node<y.node∨x.node=y.node∧x.pin<y.pin)→(∀ x,x∈l↔x∈m)→l=m
 |[],[],_,_,_=>rfl
 |[],b::m,_,_,h=>by have:=(h b).2 (.head _);cases this
 |a::l,[],_,_,h=>by have:=(h a).1 (.head _);cases this
 |a::l,b::m,h1,h2,h=>by
  obtain⟨a1,a2⟩:=List.pairwise_cons.1 h1
  obtain⟨b1,b2⟩:=List.pairwise_cons.1 h2
  have e:a=b:=by
   rcases List.mem_cons.1 ((h a).1 (.head _)) with e|e
   ·exact e
   rcases List.mem_cons.1 ((h b).2 (.head _)) with e2|e2
   ·exact e2.symm
   have q1:=b1 a e
   have q2:=a1 b e2
   omega
  subst e
  congr 1
  refine sorted_eq a2 b2 fun x=>?_
  constructor
  ·intro hx
   rcases List.mem_cons.1 ((h x).1 (.tail _ hx)) with e|e
   ·subst e;have:=a1 x hx;omega
   ·exact e
  ·intro hx
   rcases List.mem_cons.1 ((h x).2 (.tail _ hx)) with e|e
   ·subst e;have:=b1 x hx;omega
   ·exact e
theorem sorted_is {c:Circ}{q:LnZ→Bool}{r l:List LnZ} (nd:r.Nodup) (hm:∀ x,x∈r↔x∈linesN c∧q x=true) (hp:l.Perm r) (hs:l.Pairwise lnLe):l=(linesN c).filter q:=by
 have ndl:l.Nodup:=hp.nodup_iff.2 nd
 refine sorted_eq ?_ ((linesN_sorted c).filter _) fun x=>?_
 ·have:=List.Pairwise.and hs ndl
  refine this.imp fun {a b} h=>?_
  obtain⟨h1,h2⟩:=h
  have h1:=lnLe_iff.1 h1
  by_cases e:a.node=b.node∧a.pin=b.pin
  ·exact absurd (by cases a;cases b;simp only[LnZ.mk.injEq];exact e) h2
  ·omega
 ·rw[hp.mem_iff,hm,List.mem_filter]
theorem line_bd {c:Circ} (C:Cir c) {l:LnZ} (h:l∈linesN c):lnB l:=by
 have hlen:=C.len
 obtain⟨h1,h2⟩:=line_mem.1 h
 refine⟨by omega,?_⟩
 rcases h2 with e|⟨j,e,hj⟩
 ·rw[e];exact⟨by decide,by decide⟩
 ·obtain⟨x,hx⟩:=get_lt h1
  have:=(C.good.node _ x hx).few
  rw[insOf_eq hx] at hj
  rw[e]
  simp only[Int.ofNat_eq_natCast]
  omega
theorem Critical_vc {c:Circ} (P:Plz c) {p:Pat} (F:Full c p) {K:List LnZ×Nat→Prop} (h:K ((linesN c).filter (critL c p),0)):traces_Critical_wp c p K:=by
 have C:=P.cir
 have hL:=linesN_len C
 unfold traces_Critical_wp
 refine tplain_vc P ⟨(fun q=>absurd rfl (ne_t.1 q)),fun _=>tfull_vc C F ⟨(fun q=>absurd rfl (ne_t.1 q)),fun _=>critical_vc P F fun r hr1 hr2=>⟨?_,fun x hx=>line_bd C ((hr2 x).1 hx).1,fun l h1 h2=>?_⟩⟩⟩
 ·have:=nodupLen hr1 fun l hl=>((hr2 l).1 hl).1
  omega
 ·rw[sorted_is hr1 hr2 h1 h2]
  exact h
def noMem (x:CData):CData:=⟨x.inp,x.dffs,x.data0,x.data1,x.bus,false,x.port0,x.port1,x.port2,x.port3,x.gates,x.outs⟩
def noBus (x:CData):CData:=⟨x.inp,x.dffs,x.data0,x.data1,false,x.mem,x.port0,x.port1,x.port2,x.port3,x.gates,x.outs⟩
theorem cb_noMem {x:CData} (h:CB x):CB (noMem x):=⟨h.inp,h.dffs,h.data0,h.data1,h.port0,h.port1,h.port2,h.port3,h.gates,h.outs⟩
theorem cb_noBus {x:CData} (h:CB x):CB (noBus x):=⟨h.inp,h.dffs,h.data0,h.data1,h.port0,h.port1,h.port2,h.port3,h.gates,h.outs⟩
theorem circ12_vc {x:CData} (hx:CB x) {K:Circ→Prop} (h:K (circN (noMem x))):probecardlaw12_Circuit_wp x K:=of_circ_vc (cb_noMem hx) h
theorem plain12_vc {x:CData} (hx:CB x) {K:Circ→Prop} (h:K (circN (noMem (noBus x)))):probecardlaw12_Plain_wp x K:=circ12_vc (cb_noBus hx) h
theorem cir_circ {x:CData} (hm:x.mem=false):Cir (circN x):=by
 refine⟨good_circ hm,by rw[circ_mems,hm];rfl,fun i y h=>?_⟩
 rcases circ_node hm h with⟨_,rfl⟩|⟨_,_,d,_,rfl⟩|⟨h1,_,g,hg⟩
 ·show (0:Nat)≤14;decide
 ·show (14:Nat)≤14;decide
 ·have hi:=lt_of_get h
  have hn:(circN x).nodes.length=(rawN x).length:=updN_length _
  have q:=gateK_ok x.bus g (ks:=((rawN x).take i).map Node.kind) (by rw[List.length_map,List.length_take];omega)
  rw[← hg] at q
  have:=q.kind
  omega
theorem plz_circ {x:CData} (hm:x.mem=false) (hb:x.bus=false):Plz (circN x):=⟨cir_circ hm,fun i y h=>⟨(plain_circ hm hb i y h).1,(plain_circ hm hb i y h).2.1⟩⟩
theorem bit_le (n k:Nat):n/2 ^ k%2 ^ 1%256≤1:=by
 have:n/2 ^ k%2 ^ 1<2:=Nat.mod_lt _ (by decide)
 omega
theorem ofN_pre (c:Circ) (k:Nat):ofN c [k]=(List.range c.nodes.length).filter fun i=>decide (kd c i=k):=by
 unfold ofN kd
 congr 1
 funext i
 rw[Bool.eq_iff_iff]
 simp
theorem full12_vc {c:Circ} (C:Cir c) {n:Nat}{K:Pat→Prop} (h:∀ p,Full c p→K p):probecardlaw12_Full_wp c n K:=by
 have hlen:=C.len
 unfold probecardlaw12_Full_wp
 have pl:∀ (k i:Nat),((List.range i).filter fun i=>decide (kd c i=k)).length≤i:=fun k i=>filtLen
 have step:∀ (k i:Nat) (l:List Nat) (v:Nat),l.length=((List.range i).filter fun i=>decide (kd c i=k)).length→(kd c i=k→(l++[v]).length=((List.range (i+1)).filter fun i=>decide (kd c i=k)).length)∧(¬ kd c i=k→l.length=((List.range (i+1)).filter fun i=>decide (kd c i=k)).length):=by
  intro k i l v e
  rw[filtS]
  refine⟨fun q=>?_,fun q=>?_⟩
  ·rw[if_pos (decide_eq_true q)];simp[e]
  ·rw[if_neg (by simpa using q),List.append_nil];exact e
 refine joinLoop (fun s=>s.2.2≤c.nodes.length∧s.1.length=((List.range s.2.2).filter fun i=>decide (kd c i=0)).length∧(∀ v∈s.1,v≤1)∧s.2.1≤s.2.2) (fun s=>c.nodes.length-s.2.2) (fun s=>s.1.length=(ofN c [0]).length∧(∀ v∈s.1,v≤1)∧s.2≤16) ?_ ⟨Nat.zero_le _,rfl,(fun v m=>by cases m),Nat.le_refl _⟩ ?_
 ·rintro k ⟨l,b,i⟩ nx ⟨hi,hl,hv,hb⟩ hnx hk
  dsimp only at hi hl hv hb
  refine⟨fun q=>?_,fun q=>hk _ ?_⟩
  ·have q:i<c.nodes.length:=lt_t.1 q
   obtain⟨x,hx⟩:=get_lt q
   have e:=kd_eq hx
   have:=pl 0 i
   refine joinP (fun s=>s.1.length=((List.range (i+1)).filter fun i=>decide (kd c i=0)).length∧(∀ v∈s.1,v≤1)∧s.2≤i+1) (fun k2 hk2=>⟨x,hx,fun q2=>⟨by decide,by omega,?_,by omega,hk2 _ ⟨?_,?_,by dsimp only;omega⟩⟩,fun q2=>hk2 _ ⟨?_,hv,by dsimp only;omega⟩⟩) ?_
   ·simp only[List.length_singleton];omega
   ·exact (step 0 i l _ hl).1 (by rw[e];exact eq_t.1 q2)
   ·intro v m
    rcases snoc_mem.1 m with m|rfl
    ·exact hv v m
    ·exact bit_le _ _
   ·exact (step 0 i l 0 hl).2 (by rw[e];exact eq_f.1 q2)
   ·rintro⟨l2,b2⟩ ⟨h1,h2,h3⟩
    exact⟨by omega,hnx _ ⟨q,h1,h2,h3⟩ (by dsimp only;omega)⟩
  ·have q:c.nodes.length≤i:=lt_f.1 q
   have e:i=c.nodes.length:=by omega
   subst e
   exact⟨by rw[ofN_pre];exact hl,hv,by dsimp only;omega⟩
 rintro⟨pi,b0⟩ ⟨p1,p2,p3⟩
 dsimp only at p1 p2 p3
 refine joinLoop (fun s=>s.2.2≤c.nodes.length∧s.1.length=((List.range s.2.2).filter fun i=>decide (kd c i=14)).length∧(∀ v∈s.1,v≤1)∧s.2.1≤16+s.2.2) (fun s=>c.nodes.length-s.2.2) (fun s=>s.length=(ofN c [14]).length∧∀ v∈s,v≤1) ?_ ⟨Nat.zero_le _,rfl,(fun v m=>by cases m),p3⟩ ?_
 ·rintro k ⟨l,b,i⟩ nx ⟨hi,hl,hv,hb⟩ hnx hk
  dsimp only at hi hl hv hb
  refine⟨fun q=>?_,fun q=>hk _ ?_⟩
  ·have q:i<c.nodes.length:=lt_t.1 q
   obtain⟨x,hx⟩:=get_lt q
   have e:=kd_eq hx
   have:=pl 14 i
   refine joinP (fun s=>s.1.length=((List.range (i+1)).filter fun i=>decide (kd c i=14)).length∧(∀ v∈s.1,v≤1)∧s.2≤16+(i+1)) (fun k2 hk2=>⟨x,hx,fun q2=>⟨by decide,by omega,?_,by omega,hk2 _ ⟨?_,?_,by dsimp only;omega⟩⟩,fun q2=>hk2 _ ⟨?_,hv,by dsimp only;omega⟩⟩) ?_
   ·simp only[List.length_singleton];omega
   ·exact (step 14 i l _ hl).1 (by rw[e];exact eq_t.1 q2)
   ·intro v m
    rcases snoc_mem.1 m with m|rfl
    ·exact hv v m
    ·exact bit_le _ _
   ·exact (step 14 i l 0 hl).2 (by rw[e];exact eq_f.1 q2)
   ·rintro⟨l2,b2⟩ ⟨h1,h2,h3⟩
    exact⟨by omega,hnx _ ⟨q,h1,h2,h3⟩ (by dsimp only;omega)⟩
  ·have q:c.nodes.length≤i:=lt_f.1 q
   have e:i=c.nodes.length:=by omega
   subst e
   exact⟨by rw[ofN_pre];exact hl,hv⟩
 ·rintro ps ⟨q1,q2⟩
  exact h ⟨pi,ps⟩ ⟨⟨p1,q1,fun v m=>Nat.le_trans (p2 v m) (by decide),fun v m=>Nat.le_trans (q2 v m) (by decide)⟩,p2,q2⟩
def gateC:Circ:=⟨[⟨0,[],0,0⟩,⟨0,[],0,0⟩,⟨5,[0,1],0,0⟩],[⟨#[97]⟩,⟨#[98]⟩,⟨#[121]⟩],[],[2]⟩
theorem isname_aby:(([⟨#[97]⟩,⟨#[98]⟩,⟨#[121]⟩]:List ByteArray).all fun s=>isTrue (runFn Tryz.prog [] (orcExt Tryz.prog) 60 136 #[.string s] (heapOf vars)))=true:=by kernel_rfl
theorem isNm_aby {s:ByteArray} (h:s∈([⟨#[97]⟩,⟨#[98]⟩,⟨#[121]⟩]:List ByteArray)):IsNm s:=by
 obtain⟨h',e⟩:=isTrue_iff (List.all_eq_true.1 isname_aby s h)
 have c:=(runFn_sound hM hP (fun f vs h v e=>orcExt_sound f vs h v e) 60 _ _ _ _ _ e).1
 exact⟨PureV.flatB rfl,fun h b=>c.lift (by kernel_rfl) rfl (bears_vars (hasSize b) (hasVars b))⟩
theorem gate_node {i:Nat}{x:Node} (h:gateC.nodes[i]?=some x):(i=0∧x=⟨0,[],0,0⟩)∨(i=1∧x=⟨0,[],0,0⟩)∨(i=2∧x=⟨5,[0,1],0,0⟩):=by
 have hi:=lt_of_get h
 have hi:i<3:=hi
 have:i=0∨i=1∨i=2:=by omega
 rcases this with rfl|rfl|rfl
 ·cases h;exact .inl ⟨rfl,rfl⟩
 ·cases h;exact .inr (.inl ⟨rfl,rfl⟩)
 ·cases h;exact .inr (.inr ⟨rfl,rfl⟩)
theorem gate_plz:Plz gateC:=by
 have node:∀ i x,gateC.nodes[i]?=some x→GoodN gateC i x:=by
  intro i x h
  rcases gate_node h with⟨rfl,rfl⟩|⟨rfl,rfl⟩|⟨rfl,rfl⟩
  ·exact⟨(by decide:0≤15),(by decide:Arity 0 0),(fun k m=>by cases m),(fun e=>by cases e),fun _=>⟨rfl,rfl⟩,(fun e=>by cases e),fun e=>absurd e (by decide:¬ 1≤0)⟩
  ·exact⟨(by decide:0≤15),(by decide:Arity 0 0),(fun k m=>by cases m),(fun e=>by cases e),fun _=>⟨rfl,rfl⟩,(fun e=>by cases e),fun e=>absurd e (by decide:¬ 1≤0)⟩
  ·exact⟨(by decide:5≤15),(by decide:Arity 5 2),(by decide:∀ k∈[0,1],k<3),(fun e=>by cases e),fun _=>⟨rfl,rfl⟩,(fun e=>by cases e),fun _ _=>(by decide:∀ k∈[0,1],k<2)⟩
 have F:FanOk gateC:=fan_ok ⟨by decide,fun i x h=>⟨(node i x h).ins,(node i x h).few⟩⟩
 have N:NamesOk gateC:=by
  refine FnV.of_walk (enc:=i64) (PureV.flat rfl) fun h hB=>?_
  exact names_all_walk (K:=fun r=>r=0) (names_all_vc (fun s m=>isNm_aby m) (by decide) (by decide) rfl) hB
 refine⟨⟨⟨by decide,rfl,N,F,(fun m h=>by cases h),by decide,by decide,by decide,node,by decide⟩,rfl,fun i x h=>?_⟩,fun i x h=>?_⟩
 ·rcases gate_node h with⟨rfl,rfl⟩|⟨rfl,rfl⟩|⟨rfl,rfl⟩ <;> decide
 ·rcases gate_node h with⟨rfl,rfl⟩|⟨rfl,rfl⟩|⟨rfl,rfl⟩ <;> decide
theorem gate_full {a b:Nat} (ha:a≤1) (hb:b≤1):Full gateC ⟨[a,b],[]⟩:=by
 have key:∀ v∈([a,b]:List Nat),v≤1:=by
  intro v m
  simp only[List.mem_cons,List.not_mem_nil,or_false] at m
  rcases m with rfl|rfl
  ·exact ha
  ·exact hb
 exact⟨⟨rfl,rfl,fun v m=>Nat.le_trans (key v m) (by decide),fun v m=>by cases m⟩,key,fun v m=>by cases m⟩
theorem lives17_vc {K:Bool→Prop} (h:K true):probecardlaw17_lives_wp K:=by
 have e1:(linesN gateC).filter (critL gateC ⟨[1,1],[]⟩)=[⟨0,-1⟩,⟨1,-1⟩,⟨2,-1⟩,⟨2,0⟩,⟨2,1⟩]:=by decide +kernel
 have e2:(linesN gateC).filter (critL gateC ⟨[0,1],[]⟩)=[⟨0,-1⟩,⟨2,-1⟩,⟨2,0⟩]:=by decide +kernel
 have e3:(linesN gateC).filter (critL gateC ⟨[0,0],[]⟩)=[⟨2,-1⟩]:=by decide +kernel
 unfold probecardlaw17_lives_wp probecardlaw17_gate_wp
 refine Critical_vc gate_plz (gate_full (by decide) (by decide)) (Critical_vc gate_plz (gate_full (by decide) (by decide)) (Critical_vc gate_plz (gate_full (by decide) (by decide)) ?_))
 rw[e1,e2,e3]
 refine joinB' (a:=false) (fun G=>⟨(fun q=>by cases q),fun _=>⟨(fun q=>by cases q),fun _=>⟨(fun q=>by cases q),fun _=>⟨(fun q=>by cases q),fun _=>⟨(fun q=>by cases q),fun _=>G⟩⟩⟩⟩⟩) ⟨(fun q=>by cases q),fun _=>?_⟩
 refine⟨_,rfl,fun _=>⟨_,rfl,fun _=>⟨_,rfl,fun _=>⟨_,rfl,_,rfl,fun _=>⟨_,rfl,h⟩,(fun q=>by cases q)⟩,(fun q=>by cases q)⟩,(fun q=>by cases q)⟩,(fun q=>by cases q)⟩
theorem filterAt {α:Type}{l:List α}{q:α→Bool}{i:Nat}{x:α} (hx:l[i]?=some x) (hq:q x=true):(l.filter q)[((l.take i).filter q).length]?=some x:=by
 have e:l=l.take i++x::l.drop (i+1):=by rw[← drop_some hx,List.take_append_drop]
 have:l.filter q=(l.take i).filter q++x::(l.drop (i+1)).filter q:=by
  conv=>lhs;rw[e,List.filter_append,List.filter_cons,if_pos hq]
 rw[this,List.getElem?_append_right (Nat.le_refl _),Nat.sub_self]
 rfl
theorem filterLen {α:Type}{l:List α}{q:α→Bool}{i:Nat}{x:α} (hx:l[i]?=some x):((l.take (i+1)).filter q).length=((l.take i).filter q).length+(if q x=true then 1 else 0):=by
 rw[takeG hx,List.filter_append,List.length_append,List.filter_cons]
 split <;> rfl
theorem filterLt {α:Type}{l:List α}{q:α→Bool}{i:Nat}:((l.take i).filter q).length≤l.length:=Nat.le_trans (List.length_filter_le _ _) (by rw[List.length_take];omega)
theorem net17_vc {c:Circ}{l:LnZ} (hl:l∈linesN c) {K:Nat→Prop} (h:K (netOf c l)):probecardlaw17_net_wp c l K:=by
 obtain⟨h1,h2⟩:=line_mem.1 hl
 unfold netOf at h
 rcases h2 with e|⟨j,e,hj⟩
 ·rw[e,if_pos (by decide)] at h
  exact⟨fun _=>h,fun q=>by rw[e] at q;cases q⟩
 ·have hneg:¬ l.pin<0:=by rw[e];exact Int.not_lt.2 (Int.natCast_nonneg j)
  rw[if_neg hneg] at h
  obtain⟨x,hx⟩:=get_lt h1
  rw[insOf_eq hx] at hj h
  refine⟨fun q=>absurd (ltZ_t.1 q) hneg,fun _=>⟨x,hx,j,e,_,getD_some hj,?_⟩⟩
  rw[e] at h
  exact h
theorem netOf_lt {c:Circ} (C:Cir c) {l:LnZ} (hl:l∈linesN c):netOf c l<c.nodes.length:=by
 obtain⟨h1,h2⟩:=line_mem.1 hl
 unfold netOf
 rcases h2 with e|⟨j,e,hj⟩
 ·rw[e,if_pos (by decide)];exact h1
 ·have hneg:¬ l.pin<0:=by rw[e];exact Int.not_lt.2 (Int.natCast_nonneg j)
  obtain⟨x,hx⟩:=get_lt h1
  rw[insOf_eq hx] at hj
  rw[if_neg hneg,e,insOf_eq hx]
  exact (C.good.node _ x hx).ins _ (getD_mem hj)
theorem line_stuck {c:Circ}{l:LnZ} (hl:l∈linesN c) {v:Nat} (hv:v≤1):StuckOk c ⟨0,l,v,0⟩:=by
 obtain⟨h1,h2⟩:=line_mem.1 hl
 refine⟨rfl,hv,rfl,h1,?_,?_⟩
 ·rcases h2 with e|⟨j,e,_⟩
  ·dsimp only;rw[e];decide
  ·dsimp only;rw[e];simp only[Int.ofNat_eq_natCast];omega
 ·rcases h2 with e|⟨j,e,hj⟩
  ·dsimp only;rw[e];exact Int.lt_of_lt_of_le (show Int.negSucc 0<0 by decide) (Int.natCast_nonneg _)
  ·dsimp only;rw[e];simp only[Int.ofNat_eq_natCast];omega
theorem same_line (a:LnZ):((eqN a.node a.node)&&((eqZ a.pin a.pin)&&true))=true:=by rw[eq_t.2 rfl,eqz_t.2 rfl];rfl
theorem tracesCritical_vc {x:CData} (hx:CB x) {n:Nat}{K:Bool→Prop} (h:K true):probecardlaw17_TracesCritical_wp x n K:=by
 have P:=plz_circ (x:=noMem (noBus x)) rfl rfl
 unfold probecardlaw17_TracesCritical_wp
 refine plain12_vc hx ?_
 generalize circN (noMem (noBus x))=c at P ⊢
 have C:=P.cir
 have hlen:=C.len
 refine full12_vc C fun p F=>Critical_vc P F (lines_vc C (runV_vc C F.pat ?_))
 have V:=V_sol C F.pat
 have hL:=linesN_len C
 have hpos:(linesN c).length≠0:=by
  have:(⟨0,Int.negSucc 0⟩:LnZ)∈linesN c:=line_mem.2 ⟨C.good.pos,.inl rfl⟩
  have:=List.length_pos_of_mem this
  omega
 refine joinB' (a:=false) (fun G=>⟨fun q=>absurd rfl (ne_t.1 q),fun _=>⟨fun q=>absurd rfl (ne_t.1 q),fun _=>⟨fun q=>absurd rfl (ne_t.1 q),fun _=>⟨fun q=>absurd V.len (ne_t.1 q),fun _=>⟨fun q=>absurd rfl (ne_t.1 q),fun _=>?_⟩⟩⟩⟩⟩) ⟨(fun q=>by cases q),fun _=>?_⟩
 ·rw[eq_f.2 hpos];exact G
 refine joinLoop (fun s=>s.2≤(linesN c).length∧s.1=(((linesN c).take s.2).filter (critL c p)).length) (fun s=>(linesN c).length-s.2) (fun k=>k=((linesN c).filter (critL c p)).length) ?_ ⟨Nat.zero_le _,rfl⟩ ?_
 ·rintro k ⟨a,i⟩ nx ⟨hi,ha⟩ hnx hk
  dsimp only at hi ha
  refine⟨fun q=>?_,fun q=>hk _ ?_⟩
  ·have q:i<(linesN c).length:=lt_t.1 q
   obtain⟨l,hl⟩:=get_lt q
   have hm:=List.mem_of_getElem? hl
   have hle:=filterLt (l:=linesN c) (q:=critL c p) (i:=i)
   rw[← ha] at hle
   have hvb:=V_bin P F (netOf c l)
   refine joinP (fun s=>s=(((linesN c).take (i+1)).filter (critL c p)).length) (fun k2 hk2=>⟨l,hl,l,hl,net17_vc hm ⟨_,getN V.len (netOf_lt C hm),not_vc (detects_vc C F.pat (line_stuck hm (by rw[notN_bin hvb];omega)) ⟨fun q2=>absurd rfl (ne_t.1 q2),fun _=>⟨fun q2=>?_,fun q2=>hk2 _ ?_⟩⟩)⟩⟩) ?_
   ·have hq:critL c p l=true:=q2
    have hat:=filterAt (q:=critL c p) hl hq
    rw[← ha] at hat
    refine joinB' (a:=false) (fun G=>⟨fun q3=>?_,fun q3=>⟨l,hat,l,hl,?_⟩⟩) ⟨(fun q=>by cases q),fun _=>⟨by omega,hk2 _ ?_⟩⟩
    ·exact absurd (lt_of_get hat) (Nat.not_lt.2 (nlt_t.1 q3))
    ·rw[same_line];exact G
    ·rw[filterLen hl,if_pos hq,ha]
   ·have hq:critL c p l=false:=q2
    rw[filterLen hl,if_neg (by rw[hq];decide),ha];rfl
   ·rintro _ rfl
    exact⟨by omega,hnx _ ⟨q,rfl⟩ (by dsimp only;omega)⟩
  ·have q:(linesN c).length≤i:=lt_f.1 q
   rw[List.take_of_length_le q] at ha
   exact ha
 ·rintro _ rfl
  exact⟨fun _=>lives17_vc h,fun q=>absurd rfl (eq_f.1 q)⟩
def tracesCritical_sh:List (Sh×Bool):=[(shC,true),(shU64,false)]
theorem tracesCritical_call (x:DenL tracesCritical_sh) (w:wfL tracesCritical_sh x):FnV Tryz.prog NG vars 3 ⟨argL tracesCritical_sh x⟩ (.bool true):=by
 obtain⟨c,n,u⟩:=x
 obtain⟨wc,wn,_⟩:=w
 obtain⟨y,hy,e1⟩:=c_arg wc
 obtain⟨n,hn,rfl⟩:=u64_of wn
 have e:argL tracesCritical_sh (c,Int.ofNat n,u)=[encC y,n64 n]:=by
  show [elV (!true) (shC.cellsF c),elV (!false) (shU64.cellsF (Int.ofNat n))]=_
  rw[e1];rfl
 rw[e]
 exact FnV.of_walk (enc:=Value.bool) (r:=true) (PureV.flat rfl) fun h hB=>probecardlaw17_TracesCritical_walk (K:=fun r=>r=true) (tracesCritical_vc hy rfl) hB
end Go.Proofs.YtmhbhclfojmjdaaGreatDoor
namespace Go.Proofs.YtmhbhclfojmjdaaGreatDoor
open Go.Abs Go.ChangeShapes Go.RowKit Go.ChangeAt
set_option maxRecDepth 100000
def tracesCritical_shape:List (Sh×Bool):=tracesCritical_sh
theorem tracesCritical_lifted (os:Os) (started:os.Started) (H:Type) (enc:TypeId×Value→H) :
  ReturnsInHanded {} Tryz.checked os 3 .any (fun w args=>(Rows.tracesCriticalSpec.pre enc Tryz.prog Tryz.f3 [] false w args∧laidMetH Tryz.prog laid w)∧sizedMet enc Tryz.prog Tryz.f3 (OpenSpec.ofChange Rows.tracesCriticalSpec) false w args)
   (Rows.tracesCriticalSpec.post enc Tryz.prog Tryz.f3 false true false false):=by
 refine law_lift (C:=Tryz.checked) (X:=fun w _=>laidMetH Tryz.prog laid w) (fun _ _ _ hh h=>h.of_heap hh) own started (by kernel_rfl) Tryz.func3
  (ChangeSpec.witness_shaped (enc:=enc) (C:=Tryz.checked) (os:=os) (X:=fun w _=>laidMetH Tryz.prog laid w) false (World.doorLaid Tryz.prog 400 os) #[.agg #[u8 0,u8 0,u8 0,u8 0,.bool false,.bool false,u8 0,u8 0,u8 0,u8 0,.slice none 0 0,.slice none 0 0],.int .u64 0] 8 rfl (World.shaped_of_RefB (by kernel_rfl) (by kernel_rfl)) (by kernel_rfl) (by kernel_rfl) (by kernel_rfl) (door_met os _))
  laidOut rfl (fun ds hds=>?_) (by kernel_rfl) (tb:=4) (by kernel_rfl) Tryz.underlying4
  (law_run (d:=24) tracesCritical_shape Tryz.func3 rfl (by rw[Tryz.params3];exact⟨by kernel_rfl,by kernel_rfl,by kernel_rfl,by kernel_rfl,trivial⟩) tracesCritical_call)
 rw[Tryz.params3] at hds
 match ds,hds with
 |[d0,d1],_=>rfl
theorem tracesCritical_holds:Rows.TracesCriticalSaid :=
 OpenClaim.holds_of_wide 3 Tryz.f3 rfl rfl rfl rfl rfl rfl rfl ⟨rfl,rfl,rfl,rfl,rfl⟩ rfl rfl rfl rfl rfl (by kernel_rfl) Tryz.func3 (by kernel_rfl)
  (of_decide_eq_true (by kernel_rfl)) (by unfold Func.isWrapper;first | (rw[if_pos (by decide +kernel)];kernel_rfl) | (rw[if_neg (by decide +kernel)];exact⟨rfl,rfl⟩))
  (fun os started H enc _=>tracesCritical_lifted os started H enc)
theorem tracesCritical_card:Rows.TracesCriticalCardSaid :=
 Claim7.holds_tied_plain_at .later [] [.data] true (true, "aa86e69c7179e377005e4043d2b0d2688cd9df462eac80e1753cba7a177585ef") false
  tracesCritical_holds (fun _ h=>by cases h) (by kernel_rfl) (fun _ h=>by cases h) tracesCritical_row_tie rfl ⟨rfl,rfl⟩ (by kernel_rfl) rfl
  (fun f fn hf hfn=>by
   obtain rfl : f = 3 := Option.some.inj ((show Tryz.prog.funcNamed "probecard/probecardlaw17.TracesCritical" = some 3 by kernel_rfl).symm.trans hf) |>.symm
   obtain rfl:fn=Tryz.f3:=(Option.some.inj (Tryz.func3.symm.trans hfn)).symm
   exact⟨by kernel_rfl,fun j t ht=>by
    have hm:=Array.mem_of_getElem? ht
    have hall:(Tryz.f3.params.all fun u => !Tryz.prog.wantsStandIn u)=true:=by kernel_rfl
    exact (show Tryz.prog.wantsStandIn t=false by simpa using Array.all_eq_true_iff_forall_mem.1 hall t hm)⟩)
  (by kernel_rfl)
#print axioms tracesCritical_card
end Go.Proofs.YtmhbhclfojmjdaaGreatDoor
