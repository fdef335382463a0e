/-
  P2, P3, P4, P5, F1, M1, P6, P7, P8, P9, Pa, Pb, Pc, Pd, Pe, Pf, Q1, Q2: parts of the proof.
-/
import Derived.Test.YteanlacbmiiloaaGreatDoorLk45
namespace Go.Proofs.YteanlacbmiiloaaGreatDoor
open Go.Abs
set_option maxRecDepth 100000
structure GoodN (c:Circ) (i:Nat) (x:Node):Prop where
 kind:x.kind≤15
 arity:Arity x.kind x.ins.length
 ins:∀ k∈x.ins,k<c.nodes.length
 bus:x.kind=13→∀ k∈x.ins,∃ y,c.nodes[k]?=some y∧y.kind=12
 mem:x.kind≠15→x.mem=0∧x.bit=0
 memb:x.kind=15→∃ m,c.mems[x.mem]?=some m∧x.bit<m.data.length
 acyc:1≤x.kind→x.kind≤13→∀ k∈x.ins,k<i
structure GoodM (c:Circ) (m:Memo):Prop where
 addr:1≤m.addr.length∧m.addr.length≤8
 data:1≤m.data.length∧m.data.length≤32
 addrs:∀ k∈m.addr,k<c.nodes.length
 datas:∀ k∈m.data,k<c.nodes.length
 write:m.write<c.nodes.length
structure Good (c:Circ):Prop where
 len:c.nodes.length≤1024
 names:c.names.length=c.nodes.length
 namesOk:NamesOk c
 fanOk:FanOk c
 mems:∀ m∈c.mems,GoodM c m
 memsLen:c.mems.length≤16
 outs:∀ o∈c.outs,o<c.nodes.length
 outsLen:c.outs.length≤16
 node:∀ i x,c.nodes[i]?=some x→GoodN c i x
 pos:0<c.nodes.length
theorem hi_le (k:Nat) (hk:k≤15):hiZ k≤16:=by
 have:∀ k,k≤15→hiZ k≤16:=by decide
 exact this k hk
theorem GoodN.few {c:Circ}{i:Nat}{x:Node} (g:GoodN c i x):x.ins.length≤16:=by
 have h1:=hi_le _ g.kind
 have h2:=g.arity.2
 simp only[Int.ofNat_eq_natCast] at h2
 omega
theorem outside_vc {l:List Nat}{c:Circ}{K:Bool→Prop} (hl:∀ k∈l,k<c.nodes.length) (hn:l.length<2 ^ 60) (h:K false):cf_outside_wp l c K:=by
 unfold cf_outside_wp cf_outsideI_wp
 refine search_none (l:=l) ?_ ?_ h
 ·intro k i nx x hx hi hnx
  have hx2:=hl x (List.mem_of_getElem? hx)
  exact⟨fun _=>⟨x,hx,fun h1=>absurd (lt_t.1 h1) (Nat.not_lt_zero _),fun _=>⟨fun h2=>absurd (nlt_t.1 h2) (by omega),fun _=>⟨by omega,hnx⟩⟩⟩,fun h1=>absurd (lt_f.1 h1) (by omega)⟩
 ·intro k i nx hi hk
  exact⟨fun h1=>absurd (lt_t.1 h1) (by omega),fun _=>hk⟩
theorem notTri_vc {l:List Nat}{c:Circ}{K:Bool→Prop} (hl:∀ k∈l,∃ y,c.nodes[k]?=some y∧y.kind=12) (hn:l.length<2 ^ 60) (h:K false):cf_notTri_wp l c K:=by
 unfold cf_notTri_wp cf_notTriI_wp
 refine search_none (l:=l) ?_ ?_ h
 ·intro k i nx x hx hi hnx
  obtain⟨y,hy,hk⟩:=hl x (List.mem_of_getElem? hx)
  exact⟨fun _=>⟨x,hx,y,hy,fun h1=>absurd hk (ne_t.1 h1),fun _=>⟨by omega,hnx⟩⟩,fun h1=>absurd (lt_f.1 h1) (by omega)⟩
 ·intro k i nx hi hk
  exact⟨fun h1=>absurd (lt_t.1 h1) (by omega),fun _=>hk⟩
theorem comb_vc {k:Nat}{K:Bool→Prop} (h:K (decide (1≤k∧k≤13))):netlists_Comb_wp k K:=by
 unfold netlists_Comb_wp
 by_cases c1:1≤k
 ·refine⟨fun _=>?_,fun q=>absurd (nlt_f.1 q) (by omega)⟩
  have:(!ltN 13 k)=decide (1≤k∧k≤13):=by rw[Bool.eq_iff_iff,nlt_t];simp[c1]
  rw[this];exact h
 ·refine⟨fun q=>absurd (nlt_t.1 q) c1,fun _=>?_⟩
  have:decide (1≤k∧k≤13)=false:=decide_eq_false (fun q=>c1 q.1)
  rw[this] at h;exact h
theorem bit_vc {c:Circ}{x:Node}{K:Bool→Prop} (h1:x.kind≠15→x.mem=0∧x.bit=0) (h2:x.kind=15→∃ m,c.mems[x.mem]?=some m∧x.bit<m.data.length) (h:K true):netlists_bit_wp c x K:=by
 unfold netlists_bit_wp
 refine⟨fun q=>?_,fun q=>?_⟩
 ·obtain⟨a,b⟩:=h1 (ne_t.1 q)
  refine⟨fun _=>?_,fun q=>absurd a (eq_f.1 q)⟩
  rw[eq_t.2 b];exact h
 ·obtain⟨m,a,b⟩:=h2 (ne_f.1 q)
  refine⟨fun _=>⟨fun _=>⟨fun _=>⟨m,a,?_⟩,fun q=>absurd (nlt_f.1 q) (Nat.not_lt_zero _)⟩,fun q=>absurd (lt_f.1 q) (by have:=lt_of_get a;omega)⟩,fun q=>absurd (nlt_f.1 q) (Nat.not_lt_zero _)⟩
  rw[lt_t.2 b];exact h
theorem node_vc {c:Circ}{i:Nat}{x:Node}{K:Nat→Prop} (g:GoodN c i x) (h:K 0):netlists_node_wp c x K:=by
 have hf:=g.few
 unfold netlists_node_wp
 refine fanin_vc (by have:=g.kind;omega) ?_
 refine⟨fun q=>absurd (lt_t.1 q) (by have:=g.kind;omega),fun _=>?_⟩
 have e1:ltN x.ins.length (loN x.kind)=false:=lt_f.2 g.arity.1
 have e2:ltI (hiZ x.kind) (Int.ofNat x.ins.length)=false:=ltZ_f.2 g.arity.2
 refine joinI ?_
 refine⟨fun q=>absurd (q.symm.trans e1) (by decide),fun _=>?_⟩
 show (ltI (hiZ x.kind) (Int.ofNat x.ins.length)=true→_)∧_
 rw[e2]
 refine⟨(fun q=>by cases q),fun _=>outside_vc g.ins (by omega) ⟨(fun q=>by cases q),fun _=>?_⟩⟩
 have last:(false=true→K 7)∧(false=false→netlists_bit_wp c x fun r8=>((!r8)=true→K 1)∧((!r8)=false→K 0)) :=
  ⟨(fun q=>by cases q),fun _=>bit_vc g.mem g.memb ⟨(fun q=>by cases q),fun _=>h⟩⟩
 exact⟨fun q=>notTri_vc (g.bus (eq_t.1 q)) (by omega) last,fun _=>last⟩
theorem names_vc {c:Circ}{K:Nat→Prop} (g:NamesOk c) (h:K 0):netlists_names_wp c K:=⟨g,h⟩
theorem memory_vc {c:Circ}{m:Memo}{K:Nat→Prop} (g:GoodM c m) (h:K 0):netlists_memory_wp c m K:=by
 have h1:=g.addr
 have h2:=g.data
 unfold netlists_memory_wp
 refine joinI ⟨fun q=>absurd (eq_t.1 q) (by omega),fun _=>⟨fun q=>absurd (lt_t.1 q) (by omega),fun _=>⟨fun q=>absurd (eq_t.1 q) (by omega),fun _=>?_⟩⟩⟩
 rw[lt_f.2 h2.2]
 refine⟨(fun q=>by cases q),fun _=>joinI (outside_vc g.addrs (by omega) ⟨(fun q=>by cases q),fun _=>outside_vc g.datas (by omega) ⟨(fun q=>by cases q),fun _=>⟨fun q=>absurd (lt_t.1 q) (Nat.not_lt_zero _),fun _=>?_⟩⟩⟩)⟩
 rw[lt_t.2 g.write]
 exact⟨(fun q=>by cases q),fun _=>h⟩
theorem shape_vc {c:Circ}{K:Nat→Prop} (g:Good c) (h:K 0):netlists_shape_wp c K:=by
 have hlen:=g.len
 have hol:=g.outsLen
 unfold netlists_shape_wp
 have e1:ltN 16384 c.nodes.length=false:=lt_f.2 (by omega)
 have e2:ltN 16 c.mems.length=false:=lt_f.2 g.memsLen
 have e3:ltN 16384 c.outs.length=false:=lt_f.2 (by omega)
 refine joinI ?_
 refine⟨fun q=>absurd (q.symm.trans e1) (by decide),fun _=>⟨fun q=>absurd (q.symm.trans e2) (by decide),fun _=>?_⟩⟩
 show (ltN 16384 c.outs.length=true→_)∧_
 rw[e3]
 refine⟨(fun q=>by cases q),fun _=>⟨fun q=>absurd g.names (ne_t.1 q),fun _=>?_⟩⟩
 refine search_none (l:=c.nodes) ?_ ?_ ?_
 ·intro k i nx x hx hi hnx
  exact⟨fun _=>⟨x,hx,node_vc (g.node i x hx) ⟨(fun q=>absurd rfl (ne_t.1 q)),fun _=>⟨by omega,hnx⟩⟩⟩,fun h1=>absurd (lt_f.1 h1) (by omega)⟩
 ·intro k i nx hi hk
  exact⟨fun h1=>absurd (lt_t.1 h1) (by omega),fun _=>hk⟩
 ·refine names_vc g.namesOk ⟨(fun q=>absurd rfl (ne_t.1 q)),fun _=>?_⟩
  refine search_none (l:=c.mems) ?_ ?_ ?_
  ·intro k i nx x hx hi hnx
   have:=g.memsLen
   exact⟨fun _=>⟨x,hx,memory_vc (g.mems x (List.mem_of_getElem? hx)) ⟨fun q=>absurd rfl (ne_t.1 q),fun _=>⟨by omega,hnx⟩⟩⟩,fun h1=>absurd (lt_f.1 h1) (by omega)⟩
  ·intro k i nx hi hk
   exact⟨fun h1=>absurd (lt_t.1 h1) (by omega),fun _=>hk⟩
  ·exact outside_vc g.outs (by omega) ⟨(fun q=>by cases q),fun _=>h⟩
def ofN (c:Circ) (ks:List Nat):List Nat:=(List.range c.nodes.length).filter fun i=>ks.contains ((c.nodes.map Node.kind).getD i 0)
theorem containsK_vc {l:List Nat}{k:Nat}{K:Bool→Prop} (hn:l.length<2 ^ 60) (h:K (l.contains k)):sl_ContainsK_wp l k K:=by
 unfold sl_ContainsK_wp sl_IndexK_wp
 refine joinLoop (fun i=>i≤l.length∧(l.take i).contains k=false) (fun i=>l.length-i) (fun _=>l.contains k=false) ?_ ⟨Nat.zero_le _,by simp⟩ (fun _ e=>by rw[e] at h;exact h)
 intro kk i nx ⟨hi,hI⟩ hnx hk
 refine⟨fun q=>?_,fun q=>?_⟩
 ·have q:=lt_t.1 q
  obtain⟨x,hx⟩:=get_lt q
  refine⟨x,hx,fun e=>?_,fun e=>⟨by omega,hnx (i+1) ⟨q,?_⟩ (by omega)⟩⟩
  ·have e:=eq_t.1 e
   have:l.contains k=true:=by simp;rw[e];exact List.mem_of_getElem? hx
   rw[this] at h
   have e2:(!ltI (Int.ofNat i) (Int.ofNat 0))=true:=by
    have:ltI (Int.ofNat i) (Int.ofNat 0)=false:=ltZ_f.2 (Int.natCast_nonneg i)
    rw[this];rfl
   show K (!ltI (Int.ofNat i) (Int.ofNat 0))
   rw[e2];exact h
  ·have e:=eq_f.1 e
   obtain⟨h1,rfl⟩:=List.getElem?_eq_some_iff.1 hx
   rw[List.take_succ_eq_append_getElem h1]
   simp only[List.contains_eq_mem,List.mem_append,List.mem_singleton,decide_eq_false_iff_not] at hI ⊢
   intro q2
   rcases q2 with q2|q2
   ·exact hI q2
   ·exact e q2
 ·have q:=lt_f.1 q
  rw[List.take_of_length_le q] at hI
  exact hk () hI
theorem of_vc {c:Circ}{ks:List Nat}{K:List Nat→Prop} (hc:c.nodes.length<2 ^ 40) (hn:ks.length<2 ^ 60) (h:K (ofN c ks)):netlists_Of_wp c ks K:=by
 unfold netlists_Of_wp
 refine joinLoop (fun s=>s.2≤c.nodes.length∧s.1=(List.range s.2).filter fun i=>ks.contains ((c.nodes.map Node.kind).getD i 0)) (fun s=>c.nodes.length-s.2) (fun a=>a=ofN c ks) ?_ ⟨Nat.zero_le _,rfl⟩ (fun a e=>by rw[e];exact h)
 rintro k ⟨o,i⟩ nx ⟨hi,hI⟩ hnx hk
 simp only at hi hI
 refine⟨fun q=>?_,fun q=>?_⟩
 ·have q:=lt_t.1 q
  obtain⟨x,hx⟩:=get_lt q
  have hkd:(c.nodes.map Node.kind).getD i 0=x.kind:=by rw[List.getD,List.getElem?_map,hx];rfl
  have hol:o.length≤i:=by rw[hI];exact Nat.le_trans (List.length_filter_le _ _) (by simp)
  refine⟨x,hx,containsK_vc hn ⟨fun e=>⟨by simp only[List.length_singleton];omega,by omega,hnx (o++[i],i+1) ⟨q,?_⟩ (by simp only;omega)⟩,fun e=>⟨by omega,hnx (o,i+1) ⟨q,?_⟩ (by simp only;omega)⟩⟩⟩
  ·show o++[i]=_
   rw[List.range_succ,List.filter_append,← hI]
   simp only[List.filter_cons,hkd,e,if_true,List.filter_nil]
  ·show o=_
   rw[List.range_succ,List.filter_append,← hI]
   simp only[List.filter_cons,hkd,e,List.filter_nil]
   simp
 ·have q:=lt_f.1 q
  have:i=c.nodes.length:=by omega
  subst this
  exact hk o hI
def kd (c:Circ) (i:Nat):Nat:=(c.nodes.map Node.kind).getD i 0
def insOf (c:Circ) (i:Nat):List Nat:=(c.nodes.map Node.ins).getD i []
theorem kd_eq {c:Circ}{i:Nat}{x:Node} (h:c.nodes[i]?=some x):kd c i=x.kind:=by unfold kd;rw[List.getD,List.getElem?_map,h];rfl
theorem ins_eq {c:Circ}{i:Nat}{x:Node} (h:c.nodes[i]?=some x):insOf c i=x.ins:=by unfold insOf;rw[List.getD,List.getElem?_map,h];rfl
def isComb (k:Nat):Prop:=1≤k∧k≤13
instance (k:Nat):Decidable (isComb k):=by unfold isComb;exact inferInstance
theorem filter_zip (x:Nat):∀ (l:List Nat) (s:Nat),((l.zipIdx s).filter fun p=>p.1==x).length=l.count x
 |[],_=>rfl
 |a::l,s=>by
  rw[List.zipIdx_cons,List.filter_cons,List.count_cons]
  by_cases c:a=x
  ·simp[c,filter_zip x l (s+1)]
  ·simp[c,filter_zip x l (s+1)]
theorem fanNode_count (x idx i:Nat) (ins:List Nat):(fanNode x idx ins).countP (fun l=>l.node==i)=if idx=i then ins.count x else 0:=by
 unfold fanNode
 rw[List.countP_map]
 by_cases c:idx=i
 ·rw[if_pos c,← filter_zip x ins 0]
  subst c
  rw[List.countP_eq_length.2 (by intro p _;simp)]
 ·rw[if_neg c]
  rw[List.countP_eq_zero]
  intro p _
  simpa using c
def fanOf (c:Circ) (x:Nat):List Ln:=c.nodes.zipIdx.flatMap fun p=>fanNode x p.2 p.1.ins
theorem fan_count_go (x i:Nat):∀ (ns:List Node) (s:Nat),((ns.zipIdx s).flatMap fun p=>fanNode x p.2 p.1.ins).countP (fun l=>l.node==i)=if s≤i then ((ns.map Node.ins).getD (i-s) []).count x else 0
 |[],s=>by simp
 |a::ns,s=>by
  rw[List.zipIdx_cons,List.flatMap_cons,List.countP_append,fanNode_count,fan_count_go x i ns (s+1)]
  by_cases c:s=i
  ·subst c
   rw[if_pos rfl,if_neg (by omega),if_pos (Nat.le_refl _),Nat.sub_self]
   rfl
  ·rw[if_neg c]
   by_cases q:s≤i
   ·rw[if_pos (by omega:s+1≤i),if_pos q]
    have:i-s=(i-(s+1))+1:=by omega
    rw[this,Nat.zero_add]
    rfl
   ·rw[if_neg (by omega:¬ s+1≤i),if_neg q]
theorem fan_count (c:Circ) (x i:Nat):(fanOf c x).countP (fun l=>l.node==i)=(insOf c i).count x:=by
 have:=fan_count_go x i c.nodes 0
 rw[if_pos (Nat.zero_le _),Nat.sub_zero] at this
 exact this
theorem fan_lt {c:Circ}{x:Nat}{l:Ln} (h:l∈fanOf c x):l.node<c.nodes.length:=by
 unfold fanOf at h
 rw[List.mem_flatMap] at h
 obtain⟨p,h1,h2⟩:=h
 unfold fanNode at h2
 obtain⟨q,_,rfl⟩:=List.mem_map.1 h2
 have:=List.mem_zipIdx h1
 simp only
 omega
theorem fanL_get {c:Circ}{x:Nat} (h:x<c.nodes.length):(fanL c)[x]?=some (fanOf c x):=by
 unfold fanL
 rw[List.getElem?_map,List.getElem?_range h]
 rfl
structure LevOk (c:Circ) (lev:List Nat):Prop where
 len:lev.length=c.nodes.length
 up:∀ i x,c.nodes[i]?=some x→isComb x.kind→∀ k∈x.ins,lev.getD k 0<lev.getD i 0
theorem getD_set {l:List Nat}{i j v:Nat} (h:i<l.length):(l.set i v).getD j 0=if i=j then v else l.getD j 0:=by
 rw[List.getD,List.getD,List.getElem?_set]
 by_cases c:i=j
 ·subst c;simp[h]
 ·simp[c]
structure Kahn (c:Circ) (lev left R:List Nat) (d:Nat):Prop where
 levLen:lev.length=c.nodes.length
 leftLen:left.length=c.nodes.length
 dle:d≤R.length
 nodup:R.Nodup
 lt:∀ r∈R,r<c.nodes.length
 cnt:∀ i,i<c.nodes.length→left.getD i 0=if isComb (kd c i) then (insOf c i).countP (fun k=>decide (k ∉ R.take d)) else 0
 rdy:∀ i,i<c.nodes.length→(i∈R↔left.getD i 0=0)
 up:∀ i,i<c.nodes.length→isComb (kd c i)→∀ k∈insOf c i,k∈R.take d→lev.getD k 0<lev.getD i 0
 bnd:∀ i,lev.getD i 0≤d
structure KahnIn (c:Circ) (lev0 R0:List Nat) (d x:Nat) (lev left R:List Nat) (t:Nat):Prop where
 levLen:lev.length=c.nodes.length
 leftLen:left.length=c.nodes.length
 pre:∃ r,R=R0++r
 nodup:R.Nodup
 lt:∀ r∈R,r<c.nodes.length
 cnt:∀ i,i<c.nodes.length→left.getD i 0=if isComb (kd c i) then (insOf c i).countP (fun k=>decide (k ∉ R0.take d∧k≠x))+((fanOf c x).drop t).countP (fun l=>l.node==i) else 0
 rdy:∀ i,i<c.nodes.length→(i∈R↔left.getD i 0=0)
 up:∀ i,i<c.nodes.length→isComb (kd c i)→∀ k∈insOf c i,k∈R0.take d→lev.getD k 0<lev.getD i 0
 upx:∀ l∈(fanOf c x).take t,isComb (kd c l.node)→lev.getD x 0<lev.getD l.node 0
 bnd:∀ i,lev.getD i 0≤d+1
 bndx:lev.getD x 0≤d
theorem countP_split (l:List Nat) (p:Nat→Prop) [DecidablePred p] (x:Nat) (hx:¬ p x):l.countP (fun k=>decide (¬ p k))=l.countP (fun k=>decide (¬ p k∧k≠x))+l.count x:=by
 induction l with
 |nil=>rfl
 |cons a l ih =>
  rw[List.countP_cons,List.countP_cons,List.count_cons,ih]
  by_cases c:a=x
  ·subst c
   simp[hx]
   omega
  ·by_cases q:p a
   ·simp[q,c]
   ·simp[q,c]
    omega
theorem Kahn.enter {c:Circ}{lev left R:List Nat}{d x:Nat} (K:Kahn c lev left R d) (hx:R[d]?=some x):KahnIn c lev R d x lev left R 0:=by
 have hxn:x ∉ R.take d:=by
  intro m
  obtain⟨h1,rfl⟩:=List.getElem?_eq_some_iff.1 hx
  obtain⟨j,hj,e⟩:=List.getElem_of_mem m
  rw[List.length_take] at hj
  rw[List.getElem_take] at e
  exact List.pairwise_iff_getElem.1 K.nodup j d (by omega) h1 (by omega) e
 refine⟨K.levLen,K.leftLen,⟨[],by simp⟩,K.nodup,K.lt,fun i hi=>?_,K.rdy,K.up,(fun l m=>by simp at m),fun i=>Nat.le_succ_of_le (K.bnd i),K.bnd x⟩
 rw[K.cnt i hi,List.drop_zero,fan_count]
 by_cases q:isComb (kd c i)
 ·rw[if_pos q,if_pos q]
  exact countP_split _ (fun k=>k∈R.take d) x (fun h=>hxn h)
 ·rw[if_neg q,if_neg q]
theorem take_succ_get {l:List Nat}{d x:Nat} (hx:l[d]?=some x):l.take (d+1)=l.take d++[x]:=by
 obtain⟨h1,rfl⟩:=List.getElem?_eq_some_iff.1 hx
 exact List.take_succ_eq_append_getElem h1
theorem KahnIn.leave {c:Circ}{lev0 R0 lev left R:List Nat}{d x t:Nat} (hx:R0[d]?=some x) (K:KahnIn c lev0 R0 d x lev left R t) (ht:(fanOf c x).length≤t):Kahn c lev left R (d+1):=by
 have hd:d<R0.length:=(List.getElem?_eq_some_iff.1 hx).1
 obtain⟨r,hr⟩:=K.pre
 have htk:R.take (d+1)=R0.take d++[x]:=by
  rw[hr,List.take_append_of_le_length (by omega),take_succ_get hx]
 refine⟨K.levLen,K.leftLen,by rw[hr,List.length_append];omega,K.nodup,K.lt,fun i hi=>?_,K.rdy,fun i hi q k hk m=>?_,K.bnd⟩
 ·rw[K.cnt i hi,List.drop_eq_nil_of_le ht]
  by_cases q:isComb (kd c i)
  ·rw[if_pos q,if_pos q]
   simp only[List.countP_nil,Nat.add_zero,htk]
   congr 1
   funext k
   simp
  ·rw[if_neg q,if_neg q]
 ·rw[htk,List.mem_append,List.mem_singleton] at m
  rcases m with m|rfl
  ·exact K.up i hi q k hk m
  ·have:0<(fanOf c k).countP (fun l=>l.node==i):=by
    rw[fan_count]
    exact List.count_pos_iff.2 hk
   obtain⟨l,m,e⟩:=List.countP_pos_iff.1 this
   have e:l.node=i:=by simpa using e
   have:=K.upx l (by rw[List.take_of_length_le ht];exact m) (by rw[e];exact q)
   rw[e] at this
   exact this
theorem KahnIn.skip {c:Circ}{lev0 R0 lev left R:List Nat}{d x t:Nat}{l:Ln} (K:KahnIn c lev0 R0 d x lev left R t) (hl:(fanOf c x)[t]?=some l) (hc:¬ isComb (kd c l.node)):KahnIn c lev0 R0 d x lev left R (t+1):=by
 have hd:=drop_some hl
 obtain⟨h1,hl2⟩:=List.getElem?_eq_some_iff.1 hl
 refine⟨K.levLen,K.leftLen,K.pre,K.nodup,K.lt,fun i hi=>?_,K.rdy,K.up,fun l' m q=>?_,K.bnd,K.bndx⟩
 ·rw[K.cnt i hi]
  by_cases q:isComb (kd c i)
  ·rw[if_pos q,if_pos q,hd,List.countP_cons]
   have:(l.node==i)=false:=by
    rw[beq_eq_false_iff_ne]
    intro e;rw[e] at hc;exact hc q
   simp[this]
  ·rw[if_neg q,if_neg q]
 ·rw[List.take_succ_eq_append_getElem h1,hl2,List.mem_append,List.mem_singleton] at m
  rcases m with m|rfl
  ·exact K.upx l' m q
  ·exact absurd q hc
theorem KahnIn.pos {c:Circ}{lev0 R0 lev left R:List Nat}{d x t:Nat}{l:Ln} (K:KahnIn c lev0 R0 d x lev left R t) (hl:(fanOf c x)[t]?=some l) (hc:isComb (kd c l.node)):1≤left.getD l.node 0:=by
 rw[K.cnt _ (fan_lt (List.mem_of_getElem? hl)),if_pos hc,drop_some hl,List.countP_cons]
 simp
 omega
theorem KahnIn.step {c:Circ}{lev0 R0 lev left R:List Nat}{d x t:Nat}{l:Ln} (K:KahnIn c lev0 R0 d x lev left R t) (hl:(fanOf c x)[t]?=some l) (hc:isComb (kd c l.node)) (hx:R0[d]?=some x) {R':List Nat}
  (hR:(left.getD l.node 0-1=0∧R'=R++[l.node])∨(left.getD l.node 0-1≠0∧R'=R)) :
  KahnIn c lev0 R0 d x (lev.set l.node (max (lev.getD l.node 0) (lev.getD x 0+1))) (left.set l.node (left.getD l.node 0-1)) R' (t+1):=by
 have hd:=drop_some hl
 obtain⟨h1,hl2⟩:=List.getElem?_eq_some_iff.1 hl
 have hj:=fan_lt (List.mem_of_getElem? hl)
 have hpos:=K.pos hl hc
 have hjR:l.node ∉ R:=fun m=>by
  have:=(K.rdy _ hj).1 m
  omega
 obtain⟨r,hr⟩:=K.pre
 have hxR:x∈R:=by rw[hr];exact List.mem_append_left _ (List.mem_of_getElem? hx)
 have hxne:l.node≠x:=fun e=>hjR (by rw[e];exact hxR)
 have hlev:∀ i,lev.getD i 0≤(lev.set l.node (max (lev.getD l.node 0) (lev.getD x 0+1))).getD i 0:=fun i=>by
  rw[getD_set (by rw[K.levLen];exact hj)]
  split
  ·rename_i e;subst e;exact Nat.le_max_left _ _
  ·exact Nat.le_refl _
 have hsame:∀ k,k∈R→(lev.set l.node (max (lev.getD l.node 0) (lev.getD x 0+1))).getD k 0=lev.getD k 0:=fun k m=>by
  rw[getD_set (by rw[K.levLen];exact hj),if_neg (fun e=>hjR (by rw[e];exact m))]
 refine⟨by rw[List.length_set];exact K.levLen,by rw[List.length_set];exact K.leftLen,?_,?_,?_,fun i hi=>?_,fun i hi=>?_,fun i hi q k hk m=>?_,fun l' m q=>?_,fun i=>?_,by rw[hsame x hxR];exact K.bndx⟩
 ·rcases hR with⟨_,rfl⟩|⟨_,rfl⟩
  ·exact⟨r++[l.node],by rw[hr,List.append_assoc]⟩
  ·exact⟨r,hr⟩
 ·rcases hR with⟨_,rfl⟩|⟨_,rfl⟩
  ·rw[List.nodup_append]
   exact⟨K.nodup,by simp,fun a ha b hb=>by rw[List.mem_singleton] at hb;subst hb;exact fun e=>hjR (e ▸ ha)⟩
  ·exact K.nodup
 ·rcases hR with⟨_,rfl⟩|⟨_,rfl⟩
  ·intro a m
   rcases List.mem_append.1 m with m|m
   ·exact K.lt a m
   ·rw[List.mem_singleton] at m;subst m;exact hj
  ·exact K.lt
 ·rw[getD_set (by rw[K.leftLen];exact hj)]
  have hK:=K.cnt i hi
  rw[hd,List.countP_cons] at hK
  by_cases e:l.node=i
  ·subst e
   rw[if_pos rfl,if_pos hc]
   rw[if_pos hc] at hK
   have hb:(l.node==l.node)=true:=by simp
   rw[if_pos hb] at hK
   omega
  ·rw[if_neg e,hK]
   have:(l.node==i)=false:=beq_eq_false_iff_ne.2 e
   simp[this]
 ·rw[getD_set (by rw[K.leftLen];exact hj)]
  by_cases e:l.node=i
  ·subst e
   rw[if_pos rfl]
   rcases hR with⟨h0,rfl⟩|⟨h0,rfl⟩
   ·exact⟨fun _=>h0,fun _=>by simp⟩
   ·exact⟨fun m=>absurd m hjR,fun q=>absurd q h0⟩
  ·rw[if_neg e,← K.rdy i hi]
   rcases hR with⟨_,rfl⟩|⟨_,rfl⟩
   ·rw[List.mem_append,List.mem_singleton]
    exact⟨fun m=>m.resolve_right (fun q=>e q.symm),.inl⟩
   ·exact Iff.rfl
 ·have hkR:k∈R:=by rw[hr];exact List.mem_append_left _ (List.mem_of_mem_take m)
  rw[hsame k hkR]
  exact Nat.lt_of_lt_of_le (K.up i hi q k hk m) (hlev i)
 ·rw[List.take_succ_eq_append_getElem h1,hl2,List.mem_append,List.mem_singleton] at m
  rw[hsame x hxR]
  rcases m with m|rfl
  ·exact Nat.lt_of_lt_of_le (K.upx l' m q) (hlev _)
  ·rw[getD_set (by rw[K.levLen];exact hj),if_pos rfl]
   omega
 ·rw[getD_set (by rw[K.levLen];exact hj)]
  have:=K.bnd i
  have:=K.bndx
  have:=K.bnd l.node
  split <;> omega
theorem nodup_len:∀ {l m:List Nat},l.Nodup→(∀ x∈l,x∈m)→l.length≤m.length
 |[],_,_,_=>Nat.zero_le _
 |a::l,m,hn,hs=>by
  obtain⟨h1,h2⟩:=List.nodup_cons.1 hn
  have ha:a∈m:=hs a (.head _)
  have:=nodup_len (m:=m.erase a) h2 fun x hx=>(List.mem_erase_of_ne (fun e=>h1 (by rw[← e];exact hx))).2 (hs x (.tail _ hx))
  rw[List.length_erase_of_mem ha] at this
  have:=List.length_pos_of_mem ha
  rw[List.length_cons]
  omega
theorem Kahn.all {c:Circ} (g:Good c) {lev left R:List Nat}{d:Nat} (K:Kahn c lev left R d) (hd:R.length≤d):d=c.nodes.length∧LevOk c lev:=by
 have hdR:R.take d=R:=List.take_of_length_le hd
 have mem:∀ i,i<c.nodes.length→i∈R:=by
  intro i
  induction i using Nat.strongRecOn with
  |_ i ih =>
   intro hi
   rw[K.rdy i hi,K.cnt i hi]
   by_cases q:isComb (kd c i)
   ·rw[if_pos q,List.countP_eq_zero]
    intro k hk
    obtain⟨x,hx⟩:=get_lt hi
    rw[ins_eq hx] at hk
    rw[kd_eq hx] at q
    have:=(g.node i x hx).acyc q.1 q.2 k hk
    simp[hdR,ih k this (by omega)]
   ·rw[if_neg q]
 have h1:c.nodes.length≤R.length:=by
  have:(List.range c.nodes.length).length≤R.length:=nodup_len List.nodup_range (fun i m=>mem i (List.mem_range.1 m))
  simpa using this
 have h2:R.length≤c.nodes.length:=by
  have:R.length≤(List.range c.nodes.length).length:=nodup_len K.nodup (fun i m=>List.mem_range.2 (K.lt i m))
  simpa using this
 refine⟨by have:=K.dle;omega,K.levLen,fun i x hx q k hk=>?_⟩
 have hi:=lt_of_get hx
 refine K.up i hi (by rw[kd_eq hx];exact q) k (by rw[ins_eq hx];exact hk) ?_
 rw[hdR]
 exact mem k ((g.node i x hx).ins k hk)
theorem Kahn.start {c:Circ}{left R:List Nat} (h1:left.length=c.nodes.length) (h2:∀ i,i<c.nodes.length→left.getD i 0=if isComb (kd c i) then (insOf c i).length else 0) (h3:R.Nodup) (h4:∀ i,i∈R↔i<c.nodes.length∧left.getD i 0=0):Kahn c (List.replicate c.nodes.length 0) left R 0:=by
 refine⟨by simp,h1,Nat.zero_le _,h3,fun r m=>((h4 r).1 m).1,fun i hi=>?_,fun i hi=>?_,fun i _ _ k _ m=>by simp at m,fun i=>?_⟩
 ·rw[h2 i hi]
  simp
 ·rw[h4 i]
  exact⟨fun h=>h.2,fun h=>⟨hi,h⟩⟩
 ·rw[List.getD,List.getElem?_replicate]
  split <;> simp
theorem fanout_vc {c:Circ}{K:List (List Ln)→Prop} (g:FanOk c) (h:K (fanL c)):netlists_Fanout_wp c K:=⟨g,h⟩
theorem nb_t {b:Bool} (h:(!b)=true):b=false:=by cases b;rfl;cases h
theorem nb_f {b:Bool} (h:(!b)=false):b=true:=by cases b;cases h;rfl
structure Init (c:Circ) (left R:List Nat) (i:Nat):Prop where
 ile:i≤c.nodes.length
 len:left.length=c.nodes.length
 cnt:∀ j,j<c.nodes.length→left.getD j 0=if j<i∧isComb (kd c j) then (insOf c j).length else 0
 nodup:R.Nodup
 rdy:∀ j,j∈R↔j<i∧left.getD j 0=0
 rlen:R.length≤i
theorem Init.step {c:Circ}{left R:List Nat}{i:Nat}{x:Node} (I:Init c left R i) (hx:c.nodes[i]?=some x) {left' R':List Nat}
  (hl:left'=if isComb x.kind then left.set i x.ins.length else left) (hR:(left'.getD i 0=0∧R'=R++[i])∨(left'.getD i 0≠0∧R'=R)):Init c left' R' (i+1):=by
 have hi:=lt_of_get hx
 have hiR:i ∉ R:=fun m=>by have:=((I.rdy i).1 m).1;omega
 have hg:∀ j,left'.getD j 0=if j=i then (if isComb x.kind then x.ins.length else 0) else left.getD j 0:=fun j=>by
  have h0:=I.cnt i hi
  rw[if_neg (by omega)] at h0
  rw[hl]
  by_cases q:isComb x.kind
  ·rw[if_pos q,getD_set (by rw[I.len];exact hi),if_pos q]
   by_cases e:i=j
   ·rw[if_pos e,if_pos e.symm]
   ·rw[if_neg e,if_neg (fun q=>e q.symm)]
  ·rw[if_neg q,if_neg q]
   by_cases e:j=i
   ·rw[if_pos e,e,h0]
   ·rw[if_neg e]
 have hlen:left'.length=c.nodes.length:=by rw[hl];split <;> simp[I.len]
 have hmem:∀ j,j∈R'↔j∈R∨(j=i∧left'.getD i 0=0):=fun j=>by
  rcases hR with⟨h0,rfl⟩|⟨h0,rfl⟩
  ·rw[List.mem_append,List.mem_singleton]
   exact⟨fun h=>h.imp id fun e=>⟨e,h0⟩,fun h=>h.imp id fun e=>e.1⟩
  ·exact⟨.inl,fun h=>h.resolve_right (fun q=>h0 q.2)⟩
 refine⟨hi,hlen,fun j hj=>?_,?_,fun j=>?_,?_⟩
 ·rw[hg j]
  by_cases e:j=i
  ·subst e
   rw[if_pos rfl,kd_eq hx,ins_eq hx]
   by_cases q:isComb x.kind
   ·rw[if_pos q,if_pos ⟨by omega,q⟩]
   ·rw[if_neg q,if_neg (fun h=>q h.2)]
  ·rw[if_neg e,I.cnt j hj]
   by_cases q:j<i∧isComb (kd c j)
   ·rw[if_pos q,if_pos ⟨by omega,q.2⟩]
   ·rw[if_neg q,if_neg (fun h=>q ⟨by omega,h.2⟩)]
 ·rcases hR with⟨_,rfl⟩|⟨_,rfl⟩
  ·rw[List.nodup_append]
   exact⟨I.nodup,by simp,fun a ha b hb=>by rw[List.mem_singleton] at hb;subst hb;exact fun e=>hiR (by rw[← e];exact ha)⟩
  ·exact I.nodup
 ·rw[hmem,I.rdy j]
  constructor
  ·rintro (⟨h1,h2⟩|⟨rfl,h2⟩)
   ·refine⟨by omega,?_⟩
    rw[hg j,if_neg (by omega)];exact h2
   ·exact⟨by omega,h2⟩
  ·rintro⟨h1,h2⟩
   by_cases e:j=i
   ·subst e;exact .inr ⟨rfl,h2⟩
   ·rw[hg j,if_neg e] at h2
    exact .inl ⟨by omega,h2⟩
 ·have:=I.rlen
  rcases hR with⟨_,rfl⟩|⟨_,rfl⟩
  ·rw[List.length_append,List.length_singleton];omega
  ·omega
theorem Kahn.rlen {c:Circ}{lev left R:List Nat}{d:Nat} (K:Kahn c lev left R d):R.length≤c.nodes.length:=by
 have:R.length≤(List.range c.nodes.length).length:=nodup_len K.nodup (fun i m=>List.mem_range.2 (K.lt i m))
 simpa using this
theorem KahnIn.rlen {c:Circ}{lev0 R0 lev left R:List Nat}{d x t:Nat} (K:KahnIn c lev0 R0 d x lev left R t):R.length≤c.nodes.length:=by
 have:R.length≤(List.range c.nodes.length).length:=nodup_len K.nodup (fun i m=>List.mem_range.2 (K.lt i m))
 simpa using this
theorem getN {l:List Nat}{n i:Nat} (hl:l.length=n) (hi:i<n):l[i]?=some (l.getD i 0):=getD_some (by omega)
theorem fan_len {c:Circ} (g:Good c) {x:Nat} (_hx:x<c.nodes.length):(fanOf c x).length≤20000:=by
 have hl:=g.len
 unfold fanOf
 rw[List.length_flatMap]
 have h1:∀ p∈c.nodes.zipIdx,(fanNode x p.2 p.1.ins).length≤16:=by
  intro p m
  unfold fanNode
  rw[List.length_map]
  refine Nat.le_trans (List.length_filter_le _ _) ?_
  rw[List.length_zipIdx]
  have hm:=List.mem_zipIdx m
  have h3:p.2<c.nodes.length:=by omega
  have h4:c.nodes[p.2]?=some p.1:=by
   rw[hm.2.2,List.getElem?_eq_getElem h3]
   simp
  exact (g.node _ _ h4).few
 have h2:∀ (l:List (Node×Nat)),(∀ p∈l,(fanNode x p.2 p.1.ins).length≤16)→(l.map fun p=>(fanNode x p.2 p.1.ins).length).sum≤l.length*16:=by
  intro l
  induction l with
  |nil=>intro _;simp
  |cons a l ih =>
   intro h
   have:=ih fun p m=>h p (.tail _ m)
   have:=h a (.head _)
   simp only[List.map_cons,List.sum_cons,List.length_cons]
   omega
 have:=h2 _ h1
 rw[List.length_zipIdx] at this
 omega
set_option maxHeartbeats 2000000 in
theorem levels_vc {c:Circ}{K:List Nat×Nat→Prop} (g:Good c) (h:∀ lev,LevOk c lev→K (lev,0)):netlists_Levels_wp c K:=by
 have hlen:=g.len
 unfold netlists_Levels_wp
 refine shape_vc g ⟨fun q=>absurd rfl (ne_t.1 q),fun _=>⟨by omega,by omega,by omega,by omega,?_⟩⟩
 refine joinLoop (fun s=>Init c s.1 s.2.1 s.2.2) (fun s=>c.nodes.length-s.2.2) (fun a=>Init c a.1 a.2 c.nodes.length) ?_ ?_ ?_
 ·rintro k ⟨left,R,i⟩ nx I hnx hk
  dsimp only at I
  have hrl:=I.rlen
  have hile:=I.ile
  refine⟨fun q=>?_,fun q=>?_⟩
  ·have q:=lt_t.1 q
   obtain⟨x,hx⟩:=get_lt q
   refine joinI ⟨x,hx,joinI (comb_vc ?_)⟩
   have main:∀ left',left'=(if isComb x.kind then left.set i x.ins.length else left)→i<c.nodes.length∧∃ x31,left'[i]?=some x31∧(eqN x31 0=true→(R.length+([i]:List Nat).length)*8≤2 ^ 47∧i+1<2 ^ 63∧nx (left',R++[i],i+1))∧(eqN x31 0=false→i+1<2 ^ 63∧nx (left',R,i+1)):=by
    intro left' hl
    have hlen':left'.length=c.nodes.length:=by rw[hl];split <;> simp[I.len]
    refine⟨q,_,getN hlen' q,fun e=>⟨by simp only[List.length_singleton];omega,by omega,hnx (left',R++[i],i+1) (I.step hx hl (.inl ⟨eq_t.1 e,rfl⟩)) (by dsimp only;omega)⟩,fun e=>⟨by omega,hnx (left',R,i+1) (I.step hx hl (.inr ⟨eq_f.1 e,rfl⟩)) (by dsimp only;omega)⟩⟩
   refine⟨fun e=>⟨q,_,getN I.len q,main _ ?_⟩,fun e=>main _ ?_⟩
   ·rw[if_pos (show isComb x.kind from of_decide_eq_true e)]
   ·rw[if_neg (show ¬ isComb x.kind from of_decide_eq_false e)]
  ·have q:=lt_f.1 q
   have:i=c.nodes.length:=by omega
   subst this
   exact hk (left,R) I
 ·refine⟨Nat.zero_le _,by simp,fun j hj=>?_,List.nodup_nil,fun j=>by simp,Nat.zero_le _⟩
  dsimp only
  rw[List.getD,List.getElem?_replicate,if_pos hj,if_neg (by omega)]
  rfl
 ·rintro⟨left0,R0⟩ I
  dsimp only at I ⊢
  refine fanout_vc g.fanOk ?_
  have K0:Kahn c (List.replicate c.nodes.length 0) left0 R0 0:=Kahn.start I.len (fun i hi=>by rw[I.cnt i hi];simp only[hi,true_and]) I.nodup I.rdy
  refine joinLoop (fun s=>Kahn c s.1 s.2.1 s.2.2.1 s.2.2.2) (fun s=>c.nodes.length-s.2.2.2) (fun a=>a.2=c.nodes.length∧LevOk c a.1) ?_ K0 ?_
  ·rintro k ⟨lev,left,R,d⟩ nx Kh hnx hk
   dsimp only at Kh
   try dsimp only
   have hrl:=Kh.rlen
   refine⟨fun q=>?_,fun q=>?_⟩
   ·have q:=lt_t.1 q
    try dsimp only at q
    obtain⟨x,hx⟩:=get_lt q
    have hxn:=Kh.lt x (List.mem_of_getElem? hx)
    have hfl:=fan_len g hxn
    refine⟨x,hx,by omega,_,fanL_get hxn,fun e=>?_,fun e=>⟨_,fanL_get hxn,?_⟩⟩
    ·have e:=eq_t.1 e
     exact hnx _ ((Kh.enter hx).leave hx (by omega)) (by dsimp only;omega)
    ·refine loopW_intro (fun s=>KahnIn c lev R d x s.1 s.2.1 s.2.2.1 s.2.2.2) (fun s=>(fanOf c x).length-s.2.2.2) ?_ (Kh.enter hx)
     rintro⟨lev1,left1,R1,t⟩ nx1 K1 hnx1
     dsimp only at K1
     try dsimp only
     have hrl1:=K1.rlen
     refine⟨fun q1=>?_,fun q1=>hnx (lev1,left1,R1,d+1) (K1.leave hx (lt_f.1 q1)) (by dsimp only;omega)⟩
     have q1:=lt_t.1 q1
     try dsimp only at q1
     obtain⟨l,hl⟩:=get_lt q1
     have hj:=fan_lt (List.mem_of_getElem? hl)
     obtain⟨y,hy⟩:=get_lt hj
     have hky:=kd_eq hy
     refine joinI ⟨l,hl,y,hy,comb_vc ⟨fun e=>?_,fun e=>?_⟩⟩
     ·have e:¬ isComb (kd c l.node):=by rw[hky];exact of_decide_eq_false (nb_t e)
      exact⟨by omega,hnx1 (lev1,left1,R1,t+1) (K1.skip hl e) (by dsimp only;omega)⟩
     ·have e:isComb (kd c l.node):=by rw[hky];exact of_decide_eq_true (nb_f e)
      have hp:=K1.pos hl e
      have hb:=K1.bndx
      have hll:=getN K1.leftLen hj
      have hb2:left1.getD l.node 0<2 ^ 63:=by
       rw[K1.cnt _ hj,if_pos e]
       have h1:=List.countP_le_length (p:=fun k=>decide (k ∉ R.take d∧k≠x)) (l:=insOf c l.node)
       have h2:=List.countP_le_length (p:=fun l':Ln=>l'.node==l.node) (l:=(fanOf c x).drop t)
       have h3:(insOf c l.node).length≤16:=by rw[ins_eq hy];exact (g.node _ _ hy).few
       rw[List.length_drop] at h2
       omega
      refine⟨hj,_,getN K1.levLen hj,hxn,_,getN K1.levLen hxn,by omega,hj,_,getN K1.levLen hj,hj,_,hll,hp,hb2,hj,_,hll,hj,left1.getD l.node 0-1,?_,fun e2=>?_,fun e2=>?_⟩
      ·rw[List.getElem?_set_self (by rw[K1.leftLen];exact hj)]
      ·exact⟨by simp only[List.length_singleton];omega,by omega,hnx1 _ (K1.step hl e hx (.inl ⟨eq_t.1 e2,rfl⟩)) (by dsimp only;omega)⟩
      ·exact⟨by omega,hnx1 _ (K1.step hl e hx (.inr ⟨eq_f.1 e2,rfl⟩)) (by dsimp only;omega)⟩
   ·obtain⟨h1,h2⟩:=Kh.all g (lt_f.1 q)
    exact hk (lev,d) ⟨h1,h2⟩
  ·rintro⟨lev,d⟩ ⟨hd,hl⟩
   dsimp only at hd hl ⊢
   exact⟨fun q=>absurd (lt_t.1 q) (by omega),fun _=>⟨hl.len.symm,h lev hl⟩⟩
theorem check_vc {c:Circ}{K:Nat→Prop} (g:Good c) (h:K 0):netlists_Check_wp c K:=by
 unfold netlists_Check_wp
 exact levels_vc g fun _ _=>h
structure Ins (lev data l:List Nat) (i j:Nat):Prop where
 perm:l.Perm data
 jle:j≤i
 ord:∀ p q,p<q→q≤i→q≠j→lev.getD (l.getD p 0) 0≤lev.getD (l.getD q 0) 0
theorem Ins.fin {lev data l:List Nat}{i j:Nat} (I:Ins lev data l i j) (h:j=0∨lev.getD (l.getD (j-1) 0) 0≤lev.getD (l.getD j 0) 0):∀ p q,p<q→q≤i→lev.getD (l.getD p 0) 0≤lev.getD (l.getD q 0) 0:=by
 intro p q hpq hq
 by_cases c:q=j
 ·subst c
  have h:=h.resolve_left (by omega)
  by_cases e:p=q-1
  ·subst e;exact h
  ·exact Nat.le_trans (I.ord p (q-1) (by omega) (by omega) (by omega)) h
 ·exact I.ord p q hpq hq c
structure Sorted (lev data l:List Nat):Prop where
 perm:l.Perm data
 ord:∀ p q,p<q→q<l.length→lev.getD (l.getD p 0) 0≤lev.getD (l.getD q 0) 0
structure OrdOk (c:Circ) (o:List Nat):Prop where
 perm:o.Perm (List.range c.nodes.length)
 before:∀ (a i:Nat) (x:Node) (k:Nat),o[a]?=some i→c.nodes[i]?=some x→isComb x.kind→k∈x.ins→∃ b,b<a∧o[b]?=some k
set_option maxHeartbeats 8000000
def fanout_all_wp (p0:Circ) (K:(List (List Ln))→Prop):Prop :=
 24*p0.nodes.length≤2 ^ 48∧p0.nodes.length<2 ^ 63∧joinW (α:=(List (List Ln))) (fun k6=>loopW (S:=((List (List Ln))×Nat)) (fun (v7,v9) nx11=>((ltN v9 p0.nodes.length)=true→joinW (α:=(List (List Ln))) (fun k15=>∃ x16,p0.nodes[v9]?=some x16∧loopW (S:=((List (List Ln))×Nat)) (fun (v19,v21) nx23=>((ltN v21 x16.ins.length)=true→joinW (α:=(List (List Ln))) (fun k27=>∃ x28,x16.ins[v21]?=some x28∧((ltN x28 0)=true→k27 v19)∧((ltN x28 0)=false→((!(!ltN x28 p0.nodes.length))=true→x28<p0.nodes.length∧∃ x29,v19[x28]?=some x29∧(x29.length+([(⟨v9,v21⟩:Ln)]:(List Ln)).length)*16≤2 ^ 47∧x28<p0.nodes.length∧k27 (v19.set x28 (x29++([(⟨v9,v21⟩:Ln)]:(List Ln)))))∧((!(!ltN x28 p0.nodes.length))=false→k27 v19))) (fun v24=>v21+1<2 ^ 63∧nx23 (v24,(v21+1))))∧((ltN v21 x16.ins.length)=false→k15 v19)) (v7,0)) (fun v12=>v9+1<2 ^ 63∧nx11 (v12,(v9+1))))∧((ltN v9 p0.nodes.length)=false→k6 v7)) ((List.replicate p0.nodes.length ([]:List Ln)),0)) (fun v3=>joinW (α:=(List (List Ln))) (fun k40=>loopW (S:=((List (List Ln))×Nat)) (fun (v41,v43) nx45=>((ltN v43 p0.nodes.length)=true→v43<p0.nodes.length∧∃ x46,v41[v43]?=some x46∧v43<p0.nodes.length∧v43+1<2 ^ 63∧nx45 ((v41.set v43 x46),(v43+1)))∧((ltN v43 p0.nodes.length)=false→k40 v41)) (v3,0)) (fun v37=>p0.nodes.length=v37.length∧K v37))
theorem fanout_all_walk {p0:Circ}{K:(List (List Ln))→Prop} (hm:fanout_all_wp p0 K) {h0:Heap} (hB:HasB vars h0):∃ r,K r∧CallD Tryz.prog NG 41 ⟨[encCirc p0]⟩ h0 ((encL 1 (encL 2 encLn)) r) h0:=by
 unfold fanout_all_wp at hm
 refine fw Tryz.func41 hB (enc:=(encL 1 (encL 2 encLn))) (fun r=>pureL (fun _=>AllPure.cons (pureL (fun _=>pure_lnC _)) AllPure.nil)) fun O=>?_;conv=>whnf
 refine gX ?_
 refine fz ?_;refine gX ?_
 refine Own.makeRows (α:=Ln) (b:=24) (n:=p0.nodes.length) encLn 2 O rfl rfl rfl rfl rfl rfl hm.1 hm.2.1 fun g1 h O=>?_;refine gX ?_
 replace hm:=hm.2.2
 refine fg Tryz.func73 ?_;refine gX ?_
 refine fz ?_;refine gH ?_
 apply Cs;conv=>whnf
 apply Cs;refine gH ?_
 apply Cs;conv=>whnf
 refine gH ?_
 refine jn (σ:=(List (List Ln))×(List (Option Nat))) hm 65 [3] (fun s=>s.1) (fun (v3,a4) h=>RowsOk a4 v3∧Own vars h0 ([((some g1),.cells (rowVals 2 encLn a4 v3) false)]++(rowSlots encLn a4 v3)) h) (fun (v3,a4)=>[]) (fun hm=>?_) ?_
 ·refine gX ?_
  refine lw 65 [3,4,18,19] (σ:=((List (List Ln))×Nat)×(List (Option Nat))) (fun s=>s.1) (fun ((v7,v9),a8) h=>RowsOk a8 v7∧Own vars h0 ([((some g1),.cells (rowVals 2 encLn a8 v7) false)]++(rowSlots encLn a8 v7)) h) (fun ((v7,v9),a8)=>[(20,(i64 v9))]) (((List.replicate p0.nodes.length ([]:List Ln)),0),(List.replicate p0.nodes.length none)) hm ⟨(RowsOk.start p0.nodes.length),O⟩ ?_
  clear hm;rintro⟨⟨v7,v9⟩,a8⟩ nx11 base h hm ⟨hr10,O⟩
  refine gX ?_
  refine br hm (fun hm=>?_) fun hm=>?_
  ·apply Cs;conv=>whnf
   refine jn (σ:=(List (List Ln))×(List (Option Nat))) hm 65 [3,4,18,19,20] (fun s=>s.1) (fun (v12,a13) h=>RowsOk a13 v12∧Own vars h0 ([((some g1),.cells (rowVals 2 encLn a13 v12) false)]++(rowSlots encLn a13 v12)) h) (fun (v12,a13)=>[]) (fun hm=>?_) ?_
   ·refine gX ?_
    refine atF hm fun x16 hx16 hm=>?_;refine gH ?_
    refine O.new (anew_alloc (l:=[(n8 0),(.slice none 0 0),(i64 0),(i64 0)]) rfl rfl rfl) fun g17 h O=>?_;refine gH ?_
    refine O.stC 4 (.head _) [(n8 x16.kind),((encL 1 i64) x16.ins),(i64 x16.mem),(i64 x16.bit)] fun h O=>?_;refine gX ?_
    refine lw 65 [3,4,5,18,19,20,26,27] (σ:=((List (List Ln))×Nat)×(List (Option Nat))) (fun s=>s.1) (fun ((v19,v21),a20) h=>RowsOk a20 v19∧Own vars h0 ([((some g1),.cells (rowVals 2 encLn a20 v19) false)]++(rowSlots encLn a20 v19)) h) (fun ((v19,v21),a20)=>[(28,(i64 v21))]) ((v7,0),a8) hm ⟨hr10,(Own.selT [((some g17),.cells [(n8 x16.kind),((encL 1 i64) x16.ins),(i64 x16.mem),(i64 x16.bit)] false),((some g1),.cells (rowVals 2 encLn a8 v7) false)] (L:=(rowSlots encLn a8 v7)) O [1] (by decide))⟩ ?_
    clear hm;rintro⟨⟨v19,v21⟩,a20⟩ nx23 base h hm ⟨hr22,O⟩
    refine gX ?_
    refine br hm (fun hm=>?_) fun hm=>?_
    ·apply Cs;conv=>whnf
     refine jn (σ:=(List (List Ln))×(List (Option Nat))) hm 65 [3,4,5,18,19,20,26,27,28] (fun s=>s.1) (fun (v24,a25) h=>RowsOk a25 v24∧Own vars h0 ([((some g1),.cells (rowVals 2 encLn a25 v24) false)]++(rowSlots encLn a25 v24)) h) (fun (v24,a25)=>[]) (fun hm=>?_) ?_
     ·refine gX ?_
      refine atF hm fun x28 hx28 hm=>?_;refine gX ?_
      refine fg Tryz.func101 ?_;refine gX ?_
      refine br hm (fun hm=>?_) fun hm=>?_
      ·refine gX ?_
       refine bf ?_;refine gX ?_
       exact jx (v19,a20) hm ⟨hr22,O⟩
      ·refine gX ?_
       refine br hm (fun hm=>?_) fun hm=>?_
       ·refine gX ?_
        refine indexK (s:=1) (j:=x28) rfl rfl rfl rfl hm.1 ?_;refine gH ?_
        replace hm:=hm.2
        obtain⟨x29,hx29,hm⟩:=hm
        obtain⟨a30,hA32,ha31,O⟩:=Own.focus (S:=[((some g1),.cells (rowVals 2 encLn a20 v19) false)]) hr22 O hx29
        refine⟨_,rowLoad (O.at (.tail _ (.head _))) hA32 hx29 rfl rfl,?_⟩;refine gH ?_
        refine fz ?_;refine gH ?_
        refine O.apL (enc:=encLn) (l:=x29) (new:=([(⟨v9,v21⟩:Ln)]:(List Ln))) 2 (.head _) ha31.1 hm fun a34 h ha35 O hm=>?_;refine gH ?_
        refine indexK (s:=1) (j:=x28) rfl rfl rfl rfl hm.1 ?_;refine gH ?_
        replace hm:=hm.2
        refine O.rowStore (s:=2) (enc:=encLn) (j:=x28) (v:=(growV 2 a34 ((x29++([(⟨v9,v21⟩:Ln)]:(List Ln))).map encLn))) (.tail _ (.head _)) hr22 hx29 rfl rfl rfl rfl rfl fun h O=>?_;refine gH ?_
        rw[← rowVals_set] at O
        have hr36:RowsOk (a20.set x28 a34) (v19.set x28 (x29++([(⟨v9,v21⟩:Ln)]:(List Ln)))):=RowsOk.set hr22 ⟨ha35,fun e=>absurd e (by simp)⟩
        replace O:=Own.unfocus (S:=[(some g1,.cells (rowVals 2 encLn (a20.set x28 a34) (v19.set x28 (x29++([(⟨v9,v21⟩:Ln)]:(List Ln))))) false)]) O hx29 hr22
        exact jx ((v19.set x28 (x29++([(⟨v9,v21⟩:Ln)]:(List Ln)))),(a20.set x28 a34)) hm ⟨hr36,O⟩
       ·refine gX ?_
        exact jx (v19,a20) hm ⟨hr22,O⟩
     ·clear hm;rintro⟨v24,a25⟩ base h hm ⟨hr26,O⟩
      refine gX ?_
      refine aAdd hm fun hm=>?_;refine gH ?_
      exact jx ((v24,(v21+1)),a25) hm ⟨hr26,O⟩
    ·refine gX ?_
     exact jx (v19,a20) hm ⟨hr22,O⟩
   ·clear hm;rintro⟨v12,a13⟩ base h hm ⟨hr14,O⟩
    refine gX ?_
    refine aAdd hm fun hm=>?_;refine gH ?_
    exact jx ((v12,(v9+1)),a13) hm ⟨hr14,O⟩
  ·refine gX ?_
   exact jx (v7,a8) hm ⟨hr10,O⟩
 ·clear hm;rintro⟨v3,a4⟩ base h hm ⟨hr5,O⟩
  conv=>whnf
  refine jn (σ:=(List (List Ln))×(List (Option Nat))) hm 65 [3] (fun s=>s.1) (fun (v37,a38) h=>RowsOk a38 v37∧Own vars h0 ([((some g1),.cells (rowVals 2 encLn a38 v37) false)]++(rowSlots encLn a38 v37)) h) (fun (v37,a38)=>[]) (fun hm=>?_) ?_
  ·refine gX ?_
   refine lw 65 [3,51,52] (σ:=((List (List Ln))×Nat)×(List (Option Nat))) (fun s=>s.1) (fun ((v41,v43),a42) h=>RowsOk a42 v41∧Own vars h0 ([((some g1),.cells (rowVals 2 encLn a42 v41) false)]++(rowSlots encLn a42 v41)) h) (fun ((v41,v43),a42)=>[(53,(i64 v43))]) ((v3,0),a4) hm ⟨hr5,O⟩ ?_
   clear hm;rintro⟨⟨v41,v43⟩,a42⟩ nx45 base h hm ⟨hr44,O⟩
   refine gX ?_
   refine br hm (fun hm=>?_) fun hm=>?_
   ·refine gX ?_
    refine indexK (s:=1) (j:=v43) rfl rfl rfl rfl hm.1 ?_;refine gH ?_
    replace hm:=hm.2
    obtain⟨x46,hx46,hm⟩:=hm
    obtain⟨a47,hA49,ha48,O⟩:=Own.focus (S:=[((some g1),.cells (rowVals 2 encLn a42 v41) false)]) hr44 O hx46
    refine⟨_,rowLoad (O.at (.tail _ (.head _))) hA49 hx46 rfl rfl,?_⟩;refine gX ?_
    refine fg Tryz.func74 ?_;refine gX ?_
    refine clipK (s:=2) (enc:=encLn) (l:=x46) (n:=x46.length) (m:=x46.length) rfl rfl rfl rfl rfl rfl rfl ?_;refine gX ?_
    refine indexK (s:=1) (j:=v43) rfl rfl rfl rfl hm.1 ?_;refine gH ?_
    replace hm:=hm.2
    refine O.rowStore (s:=2) (enc:=encLn) (j:=v43) (v:=(clipV a47 (x46.map encLn))) (.tail _ (.head _)) hr44 hx46 rfl rfl rfl rfl rfl fun h O=>?_;refine gH ?_
    refine CodeS.ghostLe (cs':=(rowVals 2 encLn a42 v41).set v43 (growV 2 a47 (x46.map encLn))) O (.tail _ (.head _)) (t2:=3) rfl rfl (LLe.set (O.clipGrow (.head _) (fun _=>rfl) ha48)) fun h O=>?_
    rw[← rowVals_set] at O
    have hr51:RowsOk (a42.set v43 a47) (v41.set v43 x46):=RowsOk.set hr44 ha48
    replace O:=Own.unfocus (S:=[(some g1,.cells (rowVals 2 encLn (a42.set v43 a47) (v41.set v43 x46)) false)]) O hx46 hr44
    refine gX ?_
    refine aAdd hm fun hm=>?_;refine gH ?_
    exact jx (((v41.set v43 x46),(v43+1)),(a42.set v43 a47)) hm ⟨hr51,O⟩
   ·refine gX ?_
    exact jx (v41,a42) hm ⟨hr44,O⟩
  ·clear hm;rintro⟨v37,a38⟩ base h hm ⟨hr39,O⟩
   refine gX ?_
   obtain⟨hn52,hm⟩:=hm
   exact⟨v37,hm,O.ext,fun h2 F=>Own.rowsFL (L:=[((some g1),.cells (rowVals 2 encLn a38 v37) false)]) O F (Nat.le_refl _) (.head _) hr39 (fun _=>rfl) hn52⟩
set_option maxHeartbeats 8000000
def names_all_wp (p0:Circ) (K:Nat→Prop):Prop :=
 joinW (α:=Unit) (fun k3=>loopW (S:=((List (ByteArray×Bool))×Nat)) (fun (v4,v5) nx6=>((ltN v5 p0.names.length)=true→∃ x7,p0.names[v5]?=some x7∧joinW (α:=Bool) (fun k9=>netlists_IsName_wp x7 (fun r10=>((!r10)=true→k9 true)∧((!r10)=false→k9 ((mget v4 x7).getD false)))) (fun v8=>(v8=true→K 5)∧(v8=false→v5+1<2 ^ 63∧nx6 ((mset v4 x7 true),(v5+1)))))∧((ltN v5 p0.names.length)=false→k3 ())) (([]:List (ByteArray×Bool)),0)) (fun _=>K 0)
theorem names_all_walk {p0:Circ}{K:Nat→Prop} (hm:names_all_wp p0 K) {h0:Heap} (hB:HasB vars h0):∃ r,K r∧CallD Tryz.prog NG 129 ⟨[encCirc p0]⟩ h0 (i64 r) h0:=by
 unfold names_all_wp at hm
 refine fw Tryz.func129 hB (enc:=i64) (fun r=>PureV.flat rfl) fun O=>?_;conv=>whnf
 refine gX ?_
 refine fz ?_;refine gX ?_
 refine O.new ((rfl:anew _ _ _=some (.map (encM Value.string Value.bool ([]:List (ByteArray×Bool))),fun g=>.map (some g)))) fun g1 h O=>?_;refine gH ?_
 refine jn hm 25 [] (fun s=>s) (fun _ h=>Own vars h0 [] h) (fun _=>[]) (fun hm=>?_) ?_
 ·refine gX ?_
  refine lw 25 [3,8,9] (σ:=((List (ByteArray×Bool))×Nat)) (fun s=>s) (fun (v4,v5) h=>Own vars h0 [((some g1),.map (encM Value.string Value.bool v4))] h) (fun (v4,v5)=>[(10,(i64 v5))]) (([]:List (ByteArray×Bool)),0) hm O ?_
  clear hm;rintro⟨v4,v5⟩ nx6 base h hm O
  refine gX ?_
  refine br hm (fun hm=>?_) fun hm=>?_
  ·refine gX ?_
   refine atF hm fun x7 hx7 hm=>?_;refine gH ?_
   apply Cs;conv=>whnf
   refine jn hm 25 [3,5,8,9,10] (fun s=>s) (fun v8 h=>Own vars h0 [((some g1),.map (encM Value.string Value.bool v4))] h) (fun v8=>[(21,(.bool v8))]) (fun hm=>?_) ?_
   ·refine gX ?_
    refine ca (netlists_IsName_walk hm O.has) fun r10 hm=>?_;refine gH ?_
    refine br hm (fun hm=>?_) fun hm=>?_
    ·refine gX ?_
     exact jx true hm O
    ·refine gX ?_
     refine⟨_,lookupK (ek:=Value.string) (ev:=Value.bool) (m:=v4) (k:=x7) (z:=false) rfl rfl rfl rfl (by kernel_rfl) sameStr (O.at (.head _)) rfl rfl,?_⟩;refine gH ?_
     exact jx ((mget v4 x7).getD false) hm O
   ·clear hm;rintro v8 base h hm O
    refine gX ?_
    refine br hm (fun hm=>?_) fun hm=>?_
    ·refine gX ?_
     exact fe hm O
    ·refine gX ?_
     refine O.mapSet (ek:=Value.string) (ev:=Value.bool) (m:=v4) (k:=x7) (v:=true) (.head _) rfl rfl rfl sameStr rfl rfl rfl fun h O=>?_;refine gX ?_
     refine aAdd hm fun hm=>?_;refine gH ?_
     exact jx ((mset v4 x7 true),(v5+1)) hm O
  ·refine gX ?_
   exact jx () hm (O.sel [] (by decide))
 ·clear hm;rintro _ base h hm O
  refine gX ?_
  exact fe hm O
def fanPre (c:Circ) (i x:Nat):List Ln:=(c.nodes.zipIdx.take i).flatMap fun p=>fanNode x p.2 p.1.ins
theorem fanNode_snoc (x i:Nat) (l:List Nat) (a:Nat):fanNode x i (l++[a])=fanNode x i l++(if a=x then [⟨i,l.length⟩] else []):=by
 unfold fanNode
 rw[List.zipIdx_append,List.filter_append,List.map_append]
 congr 1
 by_cases c:a=x
 ·simp[c]
 ·simp[c]
theorem fanPre_succ {c:Circ}{i x:Nat}{y:Node} (hy:c.nodes[i]?=some y):fanPre c (i+1) x=fanPre c i x++fanNode x i y.ins:=by
 have h:c.nodes.zipIdx[i]?=some (y,i):=by rw[List.getElem?_zipIdx,hy];simp
 unfold fanPre
 obtain⟨h1,h2⟩:=List.getElem?_eq_some_iff.1 h
 rw[List.take_succ_eq_append_getElem h1,h2,List.flatMap_append]
 simp
theorem fanNode_len (x i:Nat) (l:List Nat):(fanNode x i l).length≤l.length:=by
 unfold fanNode
 rw[List.length_map]
 refine Nat.le_trans (List.length_filter_le _ _) ?_
 simp
structure FanPre (c:Circ):Prop where
 len:c.nodes.length≤1024
 ins:∀ (i:Nat) (x:Node),c.nodes[i]?=some x→(∀ k∈x.ins,k<c.nodes.length)∧x.ins.length≤16
theorem fanPre_len {c:Circ} (g:FanPre c) (x:Nat):∀ i,i≤c.nodes.length→(fanPre c i x).length≤i*16
 |0,_=>by simp[fanPre]
 |i+1,h=>by
  obtain⟨y,hy⟩:=get_lt (l:=c.nodes) (i:=i) h
  rw[fanPre_succ hy,List.length_append]
  have:=fanPre_len g x i (by omega)
  have:=fanNode_len x i y.ins
  have:=(g.ins i y hy).2
  omega
def rowsAt (c:Circ) (i t:Nat) (ins:List Nat):List (List Ln):=(List.range c.nodes.length).map fun x=>fanPre c i x++fanNode x i (ins.take t)
theorem rowsAt_get {c:Circ}{i t x:Nat}{ins:List Nat} (hx:x<c.nodes.length):(rowsAt c i t ins)[x]?=some (fanPre c i x++fanNode x i (ins.take t)):=by
 unfold rowsAt
 rw[List.getElem?_map,List.getElem?_range hx]
 rfl
theorem rowsAt_step {c:Circ}{i t y:Nat}{ins:List Nat} (hy:ins[t]?=some y):(rowsAt c i t ins).set y (fanPre c i y++fanNode y i (ins.take t)++[⟨i,t⟩])=rowsAt c i (t+1) ins:=by
 have ht:=lt_of_get hy
 obtain⟨h1,h2⟩:=List.getElem?_eq_some_iff.1 hy
 have hs:∀ x,fanNode x i (ins.take (t+1))=fanNode x i (ins.take t)++(if y=x then [⟨i,t⟩] else []):=fun x=>by
  rw[List.take_succ_eq_append_getElem h1,h2,fanNode_snoc,List.length_take,Nat.min_eq_left (Nat.le_of_lt ht)]
 apply List.ext_getElem?
 intro x
 rw[List.getElem?_set]
 have hl:(rowsAt c i t ins).length=c.nodes.length:=by unfold rowsAt;simp
 by_cases c1:x<c.nodes.length
 ·rw[rowsAt_get c1,rowsAt_get c1,hs x]
  by_cases e:y=x
  ·subst e
   rw[if_pos rfl,if_pos (by omega),if_pos rfl,List.append_assoc]
  ·rw[if_neg e,if_neg e,List.append_nil]
 ·have hn:∀ k,(rowsAt c i k ins)[x]?=none:=fun k=>by
   refine List.getElem?_eq_none ?_
   unfold rowsAt;simp;omega
  rw[hn,hn]
  by_cases e:y=x
  ·rw[if_pos e,if_neg (by omega)]
  ·rw[if_neg e]
theorem fanout_all_vc {c:Circ}{K:List (List Ln)→Prop} (g:FanPre c) (h:K (fanL c)):fanout_all_wp c K:=by
 have hlen:=g.len
 unfold fanout_all_wp
 refine⟨by omega,by omega,?_⟩
 refine joinLoop (fun s=>s.2≤c.nodes.length∧s.1=rowsAt c s.2 0 []) (fun s=>c.nodes.length-s.2) (fun a=>a=fanL c) ?_ ?_ ?_
 ·rintro k ⟨R,i⟩ nx ⟨hi,hR⟩ hnx hk
  dsimp only at hi hR
  subst hR
  refine⟨fun q=>?_,fun q=>?_⟩
  ·have q:=lt_t.1 q
   try dsimp only at q
   obtain⟨y,hy⟩:=get_lt q
   obtain⟨g1,g2⟩:=g.ins i y hy
   refine joinI ⟨y,hy,?_⟩
   refine loopW_intro (fun s=>s.2≤y.ins.length∧s.1=rowsAt c i s.2 y.ins) (fun s=>y.ins.length-s.2) ?_ ⟨Nat.zero_le _,by unfold rowsAt;simp⟩
   rintro⟨R1,t⟩ nx1 ⟨ht,hR⟩ hnx1
   dsimp only at ht hR
   subst hR
   refine⟨fun q1=>?_,fun q1=>?_⟩
   ·have q1:=lt_t.1 q1
    try dsimp only at q1
    obtain⟨z,hz⟩:=get_lt q1
    have hzn:=g1 z (List.mem_of_getElem? hz)
    have hb:=fanPre_len g z i hi
    have hb2:=fanNode_len z i (y.ins.take t)
    have hb3:(y.ins.take t).length≤16:=by rw[List.length_take];omega
    refine joinI ⟨z,hz,fun e=>absurd (lt_t.1 e) (Nat.not_lt_zero _),fun _=>⟨fun _=>?_,fun e=>?_⟩⟩
    ·refine⟨hzn,_,rowsAt_get hzn,by simp only[List.length_append,List.length_singleton];omega,hzn,by omega,?_⟩
     rw[rowsAt_step hz]
     exact hnx1 (rowsAt c i (t+1) y.ins,t+1) ⟨q1,rfl⟩ (by dsimp only;omega)
    ·have e2:ltN z c.nodes.length=true:=lt_t.2 hzn
     rw[e2] at e
     cases e
   ·have q1:=lt_f.1 q1
    try dsimp only at q1
    refine⟨by omega,hnx (rowsAt c i t y.ins,i+1) ⟨q,?_⟩ (by dsimp only;omega)⟩
    unfold rowsAt
    refine List.map_congr_left fun x _=>?_
    rw[List.take_of_length_le q1,fanPre_succ hy]
    simp[fanNode]
  ·have q:=lt_f.1 q
   try dsimp only at q
   have:i=c.nodes.length:=by omega
   subst this
   refine hk _ ?_
   unfold rowsAt fanL
   refine List.map_congr_left fun x _=>?_
   unfold fanPre
   rw[List.take_of_length_le (by simp)]
   simp[fanNode]
 ·refine⟨Nat.zero_le _,?_⟩
  unfold rowsAt
  apply List.ext_getElem?
  intro x
  rw[List.getElem?_replicate,List.getElem?_map]
  by_cases q:x<c.nodes.length
  ·rw[if_pos q,List.getElem?_range q]
   simp[fanPre,fanNode]
  ·rw[if_neg q,List.getElem?_eq_none (by simp;omega)]
   rfl
 ·rintro a rfl
  have hl:(fanL c).length=c.nodes.length:=by unfold fanL;simp
  refine joinLoop (fun s=>s.2≤c.nodes.length∧s.1=fanL c) (fun s=>c.nodes.length-s.2) (fun a=>a=fanL c) ?_ ⟨Nat.zero_le _,rfl⟩ ?_
  ·rintro k ⟨R,i⟩ nx ⟨hi,hR⟩ hnx hk
   dsimp only at hi hR
   subst hR
   refine⟨fun q=>?_,fun _=>hk _ rfl⟩
   have q:=lt_t.1 q
   try dsimp only at q
   obtain⟨y,hy⟩:=get_lt (l:=fanL c) (i:=i) (by omega)
   refine⟨q,y,hy,q,by omega,hnx _ ⟨q,?_⟩ (by dsimp only;omega)⟩
   obtain⟨h1,rfl⟩:=List.getElem?_eq_some_iff.1 hy
   exact List.set_getElem_self h1
  ·rintro a rfl
   exact⟨hl.symm,h⟩
theorem fan_ok {c:Circ} (g:FanPre c):FanOk c:=by
 refine FnV.of_walk (enc:=encL 1 (encL 2 encLn)) (pureL fun r=>AllPure.cons (pureL fun l=>pure_lnC l) AllPure.nil) fun h hB=>?_
 exact fanout_all_walk (K:=fun r=>r=fanL c) (fanout_all_vc g rfl) hB
theorem mget_none {l:List ByteArray}{x:ByteArray} (h:x ∉ l):mget (l.map fun s=>(s,true)) x=none:=by
 induction l with
 |nil=>rfl
 |cons a l ih =>
  simp only[List.mem_cons,not_or] at h
  rw[List.map_cons,mget,if_neg h.1]
  exact ih h.2
theorem mset_new {l:List ByteArray}{x:ByteArray} (h:x ∉ l):mset (l.map fun s=>(s,true)) x true=(l++[x]).map fun s=>(s,true):=by
 induction l with
 |nil=>rfl
 |cons a l ih =>
  simp only[List.mem_cons,not_or] at h
  rw[List.map_cons,mset,if_neg h.1,ih h.2]
  rfl
theorem names_all_vc {c:Circ}{K:Nat→Prop} (h1:∀ s∈c.names,IsNm s) (h2:c.names.Nodup) (h3:c.names.length<2 ^ 60) (h:K 0):names_all_wp c K:=by
 unfold names_all_wp
 refine joinLoop (fun s=>s.2≤c.names.length∧s.1=(c.names.take s.2).map fun s=>(s,true)) (fun s=>c.names.length-s.2) (fun _=>True) ?_ ⟨Nat.zero_le _,by simp⟩ (fun _ _=>h)
 rintro k ⟨m,i⟩ nx ⟨hi,hR⟩ hnx hk
 dsimp only at hi hR
 subst hR
 refine⟨fun q=>?_,fun _=>hk () trivial⟩
 have q:=lt_t.1 q
 try dsimp only at q
 obtain⟨x,hx⟩:=get_lt q
 obtain⟨l1,l2⟩:=List.getElem?_eq_some_iff.1 hx
 have hnot:x ∉ c.names.take i:=fun mm=>by
  obtain⟨j,hj,e⟩:=List.getElem_of_mem mm
  rw[List.length_take] at hj
  rw[List.getElem_take] at e
  exact List.pairwise_iff_getElem.1 h2 j i (by omega) l1 (by omega) (e.trans l2.symm)
 refine⟨x,hx,joinI ⟨h1 x (List.mem_of_getElem? hx),(fun e=>by cases e),fun _=>?_⟩⟩
 rw[mget_none hnot]
 refine⟨(fun e=>by cases e),fun _=>⟨by omega,hnx _ ⟨q,?_⟩ (by dsimp only;omega)⟩⟩
 dsimp only
 rw[mset_new hnot,List.take_succ_eq_append_getElem l1,l2]
theorem joinB {α:Type}{a:α}{first:(α→Prop)→Prop}{rest:α→Prop} (h1:rest a→first rest) (h2:rest a):joinW first rest:=h1 h2
structure CB (x:CData):Prop where
 inp:x.inp<256
 dffs:x.dffs<256
 data0:x.data0<256
 data1:x.data1<256
 port0:x.port0<256
 port1:x.port1<256
 port2:x.port2<256
 port3:x.port3<256
 gates:∀ g∈x.gates,GOk g
 outs:∀ o∈x.outs,o<256
structure GK (ks:List Nat) (x:Node):Prop where
 kind1:1≤x.kind
 kind:x.kind≤13
 arity:Arity x.kind x.ins.length
 ins:∀ k∈x.ins,k<ks.length
 bus:x.kind=13→∀ k∈x.ins,ks.getD k 0=12
 mem:x.mem=0
 bit:x.bit=0
theorem getD_mem {l:List Nat}{i:Nat} (h:i<l.length):l.getD i 0∈l:=by
 rw[List.getD,List.getElem?_eq_getElem h]
 exact List.getElem_mem h
structure Pln (c:Circ):Prop where
 good:Good c
 mems:c.mems=[]
 kinds:∀ (i:Nat) (y:Node),c.nodes[i]?=some y→y.kind≠12∧y.kind≠13∧y.kind≠15
def isFree (k:Nat):Bool:=k==0||k==14
theorem Pln.gate {c:Circ} (p:Pln c) {i:Nat}{y:Node} (h:c.nodes[i]?=some y) (hf:isFree y.kind=false):1≤y.kind∧y.kind≤11:=by
 have:=p.kinds i y h
 have:=(p.good.node i y h).kind
 simp only[isFree,Bool.or_eq_false_iff,beq_eq_false_iff_ne] at hf
 omega
theorem Pln.comb {c:Circ} (p:Pln c) {i:Nat}{y:Node} (h:c.nodes[i]?=some y) (hf:isFree y.kind=false):isComb y.kind:=by
 have:=p.gate h hf
 exact⟨this.1,by omega⟩
theorem free_vc {k:Nat}{K:Bool→Prop} (h:K (isFree k)):implies_free_wp k K:=by
 unfold implies_free_wp
 have e:isFree k=(eqN k 0||eqN k 14):=by unfold isFree;rw[Bool.eq_iff_iff];simp[eqN_eq]
 rw[e] at h
 refine⟨fun q=>by rw[q] at h;exact h,fun q=>by rw[q] at h;exact h⟩
theorem plain_vc {c:Circ}{K:Nat→Prop} (p:Pln c) (h:K 0):implies_Plain_wp c K:=by
 have hlen:=p.good.len
 unfold implies_Plain_wp
 refine check_vc p.good ⟨fun q=>absurd rfl (ne_t.1 q),fun _=>?_⟩
 have e0:ltN 0 c.mems.length=false:=lt_f.2 (by rw[p.mems];exact Nat.le_refl _)
 refine joinI ⟨fun q=>absurd (q.symm.trans e0) (by decide),fun _=>?_⟩
 refine of_vc (by omega) (by decide) ?_
 have e:ofN c [12,13,15]=[]:=by
  unfold ofN
  rw[List.filter_eq_nil_iff]
  intro i m
  have hi:=List.mem_range.1 m
  obtain⟨y,hy⟩:=get_lt hi
  have:=p.kinds i y hy
  rw[List.getD,List.getElem?_map,hy]
  simp
  omega
 rw[e]
 exact⟨(fun q=>by cases q),fun _=>h⟩
def freeN (c:Circ):List Nat:=(List.range c.nodes.length).filter fun i=>isFree (kd c i)
theorem notN_le (v:Nat):notN v≤2:=by unfold notN;split <;> omega
theorem decN_le {low high:Nat} (h1:low≤2) (h2:high≤2):∀ (l:List Nat) (o:Nat),o≤2→decN low high l o≤2
 |[],o,h=>h
 |v::r,o,h=>by
  unfold decN
  split
  ·exact h1
  ·refine decN_le h1 h2 r _ ?_
   split
   ·exact h
   ·exact Nat.le_refl _
theorem xorN_le:∀ (l:List Nat) (o:Nat),o≤1→xorN l o≤2
 |[],o,h=>Nat.le_succ_of_le h
 |v::r,o,h=>by
  unfold xorN
  split
  ·refine xorN_le r _ ?_
   have q1:o=0∨o=1:=by omega
   have q2:v=0∨v=1:=by omega
   rcases q1 with rfl|rfl <;> rcases q2 with rfl|rfl <;> simp
  ·exact Nat.le_refl _
theorem evalN_le (k:Nat) (l:List Nat):evalN k l≤2:=by
 unfold evalN
 repeat' split
 all_goals first|omega|exact Nat.min_le_right _ _|exact notN_le _|exact decN_le (by decide) (by decide) _ _ (by decide) | exact xorN_le _ _ (by decide) | skip
 unfold muxN
 repeat' split
 all_goals first|exact Nat.min_le_right _ _|exact Nat.le_refl _
def insV (t:List Nat) (x:Node):List Nat:=x.ins.map fun k=>t.getD k 0
structure TotOk (c:Circ) (b:Nat) (t:List Nat):Prop where
 len:t.length=c.nodes.length
 free:∀ j f,(freeN c)[j]?=some f→t.getD f 0=b/2 ^ j%2
 gate:∀ i x,c.nodes[i]?=some x→isFree x.kind=false→t.getD i 0=evalN x.kind (insV t x)
 le:∀ i,t.getD i 0≤2
theorem freeN_mem {c:Circ}{f:Nat} (h:f∈freeN c):f<c.nodes.length∧isFree (kd c f)=true:=by
 unfold freeN at h
 rw[List.mem_filter,List.mem_range] at h
 exact h
structure TotTo (c:Circ) (b:Nat) (o t:List Nat) (i:Nat):Prop where
 len:t.length=c.nodes.length
 free:∀ j f,(freeN c)[j]?=some f→t.getD f 0=b/2 ^ j%2
 gate:∀ j m (x:Node),j<i→o[j]?=some m→c.nodes[m]?=some x→isFree x.kind=false→t.getD m 0=evalN x.kind (insV t x)
 le:∀ i,t.getD i 0≤2
theorem ord_inj {c:Circ}{o:List Nat} (h:OrdOk c o) {a b m:Nat} (h1:o[a]?=some m) (h2:o[b]?=some m):a=b:=by
 have hn:o.Nodup:=h.perm.nodup_iff.2 List.nodup_range
 obtain⟨q1,q2⟩:=List.getElem?_eq_some_iff.1 h1
 obtain⟨q3,q4⟩:=List.getElem?_eq_some_iff.1 h2
 rcases Nat.lt_trichotomy a b with q|q|q
 ·exact absurd (q2.trans q4.symm) (List.pairwise_iff_getElem.1 hn a b q1 q3 q)
 ·exact q
 ·exact absurd (q4.trans q2.symm) (List.pairwise_iff_getElem.1 hn b a q3 q1 q)
theorem TotTo.skip {c:Circ}{b:Nat}{o t:List Nat}{i m:Nat}{x:Node} (T:TotTo c b o t i) (hm:o[i]?=some m) (hx:c.nodes[m]?=some x) (hf:isFree x.kind=true):TotTo c b o t (i+1):=by
 refine⟨T.len,T.free,fun j m' x' hj ho hx' hf'=>?_,T.le⟩
 by_cases e:j=i
 ·subst e
  rw[hm] at ho;cases ho
  rw[hx] at hx';cases hx'
  rw[hf] at hf';cases hf'
 ·exact T.gate j m' x' (by omega) ho hx' hf'
theorem TotTo.step {c:Circ} (p:Pln c) {b:Nat}{o t:List Nat} (ho:OrdOk c o) {i m:Nat}{x:Node} (T:TotTo c b o t i) (hm:o[i]?=some m) (hx:c.nodes[m]?=some x) (hf:isFree x.kind=false):TotTo c b o (t.set m (evalN x.kind (insV t x))) (i+1):=by
 have hml:m<t.length:=by rw[T.len];exact lt_of_get hx
 have same:∀ (j m':Nat) (x':Node),j≤i→o[j]?=some m'→c.nodes[m']?=some x'→isFree x'.kind=false→insV (t.set m (evalN x.kind (insV t x))) x'=insV t x':=by
  intro j m' x' hj h1 h2 h3
  unfold insV
  refine List.map_congr_left fun k hk=>?_
  rw[getD_set hml]
  by_cases e:m=k
  ·subst e
   obtain⟨b',hb,hb2⟩:=ho.before j m' x' m h1 h2 (p.comb h2 h3) hk
   have:=ord_inj ho hb2 hm
   omega
  ·rw[if_neg e]
 refine⟨by rw[List.length_set];exact T.len,fun j f hj=>?_,fun j m' x' hj h1 h2 h3=>?_,fun k=>?_⟩
 ·rw[getD_set hml,if_neg ?_]
  ·exact T.free j f hj
  ·rintro rfl
   have:=(freeN_mem (List.mem_of_getElem? hj)).2
   rw[kd_eq hx,hf] at this
   cases this
 ·rw[same j m' x' (by omega) h1 h2 h3,getD_set hml]
  by_cases e:m=m'
  ·subst e
   rw[if_pos rfl]
   rw[hx] at h2;cases h2
   rfl
  ·rw[if_neg e]
   refine T.gate j m' x' ?_ h1 h2 h3
   by_cases e2:j=i
   ·subst e2;rw[hm] at h1;cases h1;exact absurd rfl e
   ·omega
 ·rw[getD_set hml]
  split
  ·exact evalN_le _ _
  ·exact T.le k
theorem TotTo.done {c:Circ}{b:Nat}{o t:List Nat} (ho:OrdOk c o) {i:Nat} (T:TotTo c b o t i) (hi:o.length≤i):TotOk c b t:=by
 refine⟨T.len,T.free,fun m x hx hf=>?_,T.le⟩
 have hm:m∈o:=ho.perm.mem_iff.2 (List.mem_range.2 (lt_of_get hx))
 obtain⟨j,hj,e⟩:=List.getElem_of_mem hm
 exact T.gate j m x (by omega) (by rw[List.getElem?_eq_getElem hj,e]) hx hf
theorem filt_step {p:Nat→Bool}{i:Nat}:(List.range (i+1)).filter p=(List.range i).filter p++(if p i=true then [i] else []):=by
 rw[List.range_succ,List.filter_append]
 simp only[List.filter_cons,List.filter_nil]
def vecN (b:Nat):Nat→List (List Nat)
 |0=>[[]]
 |n+1=>(vecN b n).flatMap fun v=>(List.range (b+1)).map fun x=>x::v
theorem mem_vecN (b:Nat):∀ (l:List Nat),(∀ x∈l,x≤b)→l∈vecN b l.length
 |[],_=>by simp[vecN]
 |x::l,h=>by
  have ih:=mem_vecN b l fun y m=>h y (by simp[m])
  have hx:=h x (by simp)
  simp only[vecN,List.length_cons,List.mem_flatMap]
  exact⟨l,ih,List.mem_map.2 ⟨x,List.mem_range.2 (by omega),rfl⟩⟩
def blw (v w:Nat):Bool:=Nat.beq v 2||Nat.beq v w
def blwL:List Nat→List Nat→Bool
 |[],[]=>true
 |a::l,b::m=>blw a b&&blwL l m
 |_,_=>false
def allN (p:Nat→Bool):List Nat→Bool
 |[]=>true
 |a::l=>p a&&allN p l
def eqLs:List Nat→List Nat→Bool
 |[],[]=>true
 |a::l,b::m=>Nat.beq a b&&eqLs l m
 |_,_=>false
def okG (k o:Nat) (l:List Nat):Bool:=match gateL (Int.ofNat k) (Int.ofNat o) (l.map Int.ofNat) with
 |none=>true
 |some (v,r)=>decide (0≤v)&&r.all fun x=>decide (0≤x)
def gateChk (k m:Nat):Bool:=(vecN 2 m).all fun l=>(List.range 3).all fun o =>
 okG k o l &&
 (!(gateR k o l).2.2||(Nat.ble (gateR k o l).1 2&&Nat.beq (gateR k o l).2.1.length m&&allN (fun v=>Nat.ble v 2) (gateR k o l).2.1)) &&
 ((vecN 1 m).all fun t => !(blw o (evalN k t)&&blwL l t)||((gateR k o l).2.2&&blw (gateR k o l).1 (evalN k t)&&blwL (gateR k o l).2.1 t)) &&
 (!(allN (fun v=>Nat.ble v 1) l&&(gateR k o l).2.2)||Nat.beq (gateR k o l).1 (evalN k l))
theorem gate_chk:∀ m,m<4→∀ k,k<12→1≤k→Arity k m→gateChk k m=true:=by decide +kernel
def Blw (v w:Nat):Prop:=v=2∨v=w
theorem blw_iff {v w:Nat}:blw v w=true↔Blw v w:=by
 unfold blw Blw
 rw[Bool.or_eq_true,Nat.beq_eq,Nat.beq_eq]
theorem blwL_iff:∀ {l t:List Nat},blwL l t=true↔l.length=t.length∧∀ j,Blw (l.getD j 0) (t.getD j 0)
 |[],[]=>by simp[blwL,Blw]
 |[],_::_=>by simp[blwL]
 |_::_,[]=>by simp[blwL]
 |a::l,b::t=>by
  unfold blwL
  rw[Bool.and_eq_true,blw_iff,blwL_iff (l:=l) (t:=t),List.length_cons,List.length_cons]
  refine⟨fun ⟨h1,h2,h3⟩=>⟨by omega,fun j=>?_⟩,fun ⟨h1,h2⟩=>⟨h2 0,by omega,fun j=>h2 (j+1)⟩⟩
  cases j with
  |zero=>exact h1
  |succ j=>exact h3 j
theorem allN_iff {p:Nat→Bool}:∀ {l:List Nat},allN p l=true ↔ ∀ x∈l,p x=true
 |[]=>by simp[allN]
 |a::l=>by
  unfold allN
  rw[Bool.and_eq_true,allN_iff (l:=l)]
  simp
structure GF (k o:Nat) (l:List Nat):Prop where
 ok:GateOk k o l
 le:(gateR k o l).2.2=true→(gateR k o l).1≤2∧(gateR k o l).2.1.length=l.length∧∀ v∈(gateR k o l).2.1,v≤2
 sound:∀ t:List Nat,t.length=l.length→(∀ x∈t,x≤1)→Blw o (evalN k t)→(∀ j,Blw (l.getD j 0) (t.getD j 0))→(gateR k o l).2.2=true∧Blw (gateR k o l).1 (evalN k t)∧∀ j,Blw ((gateR k o l).2.1.getD j 0) (t.getD j 0)
 full:(∀ x∈l,x≤1)→(gateR k o l).2.2=true→(gateR k o l).1=evalN k l
theorem okG_ok {k o:Nat}{l:List Nat} (h:okG k o l=true):GateOk k o l:=by
 unfold okG at h
 intro v r e
 rw[e] at h
 simp only[Bool.and_eq_true,decide_eq_true_eq,List.all_eq_true] at h
 exact h
theorem gf {k o:Nat}{l:List Nat} (h1:1≤k) (hk:k≤11) (ha:Arity k l.length) (hl:l.length≤3) (ho:o≤2) (hle:∀ x∈l,x≤2):GF k o l:=by
 have h:=gate_chk l.length (by omega) k (by omega) h1 ha
 unfold gateChk at h
 have h:=List.all_eq_true.1 h l (mem_vecN 2 l hle)
 have h:=List.all_eq_true.1 h o (List.mem_range.2 (by omega))
 rw[Bool.and_eq_true,Bool.and_eq_true,Bool.and_eq_true] at h
 obtain⟨⟨⟨q1,q2⟩,q3⟩,q4⟩:=h
 refine⟨okG_ok q1,fun e=>?_,fun t ht ht1 b1 b2=>?_,fun b e=>?_⟩
 ·rw[e,Bool.or_eq_true,Bool.and_eq_true,Bool.and_eq_true] at q2
  rcases q2 with q2|⟨⟨a1,a2⟩,a3⟩
  ·cases q2
  ·exact⟨Nat.le_of_ble_eq_true a1,Nat.eq_of_beq_eq_true a2,fun v m=>Nat.le_of_ble_eq_true (allN_iff.1 a3 v m)⟩
 ·have h:=List.all_eq_true.1 q3 t (by rw[← ht];exact mem_vecN 1 t ht1)
  rw[blw_iff.2 b1,blwL_iff.2 ⟨ht.symm,b2⟩] at h
  rw[Bool.or_eq_true,Bool.and_eq_true,Bool.and_eq_true,blw_iff,blwL_iff] at h
  rcases h with h|⟨⟨a1,a2⟩,a3⟩
  ·cases h
  ·exact⟨a1,a2,a3.2⟩
 ·rw[e,allN_iff.2 (fun x m=>Nat.ble_eq_true_of_le (b x m))] at q4
  rw[Bool.or_eq_true] at q4
  rcases q4 with q4|q4
  ·cases q4
  ·exact Nat.eq_of_beq_eq_true q4
def belowV (v:Nat):List Nat:=if v=2 then [2] else [2,v]
def belowsL:List Nat→List (List Nat)
 |[]=>[[]]
 |v::l=>(belowsL l).flatMap fun m=>(belowV v).map fun x=>x::m
theorem mem_belowV {v w:Nat} (h:Blw v w):v∈belowV w:=by
 unfold belowV
 rcases h with rfl|rfl <;> split <;> simp_all
theorem mem_belowsL:∀ {l t:List Nat},l.length=t.length→(∀ j,Blw (l.getD j 0) (t.getD j 0))→l∈belowsL t
 |[],[],_,_=>by simp[belowsL]
 |[],_::_,h,_=>by simp at h
 |_::_,[],h,_=>by simp at h
 |a::l,b::t,h,hb=>by
  unfold belowsL
  have ih:=mem_belowsL (l:=l) (t:=t) (by simpa using h) fun j=>hb (j+1)
  exact List.mem_flatMap.2 ⟨l,ih,List.mem_map.2 ⟨a,mem_belowV (hb 0),rfl⟩⟩
def monoChk (k m:Nat):Bool:=(vecN 2 m).all fun t=>(List.range 3).all fun p => !(gateR k p t).2.2||(belowsL t).all fun l =>
 ((belowV p).all fun o=>(gateR k o l).2.2&&blw (gateR k o l).1 (gateR k p t).1&&blwL (gateR k o l).2.1 (gateR k p t).2.1) &&
 (!(blw (gateR k p t).1 p&&blwL (gateR k p t).2.1 t)||blw (evalN k l) p)
theorem mono_chk:∀ m,m<4→∀ k,k<12→1≤k→Arity k m→monoChk k m=true:=by decide +kernel
theorem gate_mono {k o p:Nat}{l t:List Nat} (h1:1≤k) (hk:k≤11) (ha:Arity k t.length) (hl:t.length≤3) (hp:p≤2) (ht:∀ x∈t,x≤2) (ho:Blw o p) (hll:l.length=t.length) (hlt:∀ j,Blw (l.getD j 0) (t.getD j 0)) (hok:(gateR k p t).2.2=true) :
  ((gateR k o l).2.2=true∧Blw (gateR k o l).1 (gateR k p t).1∧∀ j,Blw ((gateR k o l).2.1.getD j 0) ((gateR k p t).2.1.getD j 0)) ∧
  (Blw (gateR k p t).1 p→(∀ j,Blw ((gateR k p t).2.1.getD j 0) (t.getD j 0))→Blw (evalN k l) p):=by
 have h:=mono_chk t.length (by omega) k (by omega) h1 ha
 unfold monoChk at h
 have h:=List.all_eq_true.1 h t (mem_vecN 2 t ht)
 have h:=List.all_eq_true.1 h p (List.mem_range.2 (by omega))
 rw[hok,Bool.not_true,Bool.false_or] at h
 have h:=List.all_eq_true.1 h l (mem_belowsL hll hlt)
 rw[Bool.and_eq_true] at h
 obtain⟨q1,q2⟩:=h
 have h:=List.all_eq_true.1 q1 o (mem_belowV ho)
 rw[Bool.and_eq_true,Bool.and_eq_true,blw_iff,blwL_iff] at h
 refine⟨⟨h.1.1,h.1.2,h.2.2⟩,fun b1 b2=>?_⟩
 have len:=((gf h1 hk ha hl hp ht).le hok).2.1
 rw[Bool.or_eq_true,blw_iff.2 b1,blwL_iff.2 ⟨len,b2⟩] at q2
 rcases q2 with q2|q2
 ·cases q2
 ·exact blw_iff.1 q2
theorem Blw.trans {a b c:Nat} (h:Blw a b) (h':Blw b c):Blw a c:=by
 rcases h with h|h
 ·exact .inl h
 ·subst h;exact h'
theorem put_vc {c:Circ} (g:Good c) {v w:List Nat}{m x:Nat}{K:Bool×List Nat×List Nat→Prop} (hv:v.length=c.nodes.length) (hm:m<c.nodes.length) (hw:w.length≤2 ^ 30)
  (hA:(x=2∨v.getD m 0=x)→K (true,v,w))
  (hB:x≠2→v.getD m 0=2→K (true,v.set m x,w++m::(fanOf c m).map Ln.node))
  (hC:x≠2→v.getD m 0≠2→v.getD m 0≠x→K (false,v,w)) :
  work_put_wp c.nodes c.names c.mems c.outs (fanL c) c.nodes.length v w m x K:=by
 have hfl:=fan_len g hm
 have hg:=getN hv hm
 unfold work_put_wp
 have rest:∀ (v':List Nat),v'.getD m 0=x→v'.length=c.nodes.length→K (true,v',w++m::(fanOf c m).map Ln.node)→∃ x11,v'[m]?=some x11∧((!(eqN x11 x))=true→K (false,v',w))∧((!(eqN x11 x))=false→(w.length+([m]:List Nat).length)*8≤2 ^ 47∧joinW (α:=List Nat) (fun k23=>∃ x24,(fanL c)[m]?=some x24∧loopW (S:=(List Nat)×Nat) (fun (v28,v29) nx32=>((ltN v29 x24.length)=true→∃ x33,x24[v29]?=some x33∧(v28.length+([x33.node]:List Nat).length)*8≤2 ^ 47∧v29+1<2 ^ 63∧nx32 ((v28++([x33.node]:List Nat)),(v29+1)))∧((ltN v29 x24.length)=false→k23 v28)) ((w++([m]:List Nat)),0)) (fun v20=>K (true,v',v20))):=by
  intro v' hx hl h
  refine⟨_,getN hl hm,fun q=>absurd hx (neq_t.1 q),fun _=>⟨by simp only[List.length_singleton];omega,?_⟩⟩
  refine joinI ⟨_,fanL_get hm,?_⟩
  refine loopW_intro (fun s=>s.2≤(fanOf c m).length∧s.1=w++m::((fanOf c m).take s.2).map Ln.node) (fun s=>(fanOf c m).length-s.2) ?_ ⟨Nat.zero_le _,by simp⟩
  rintro⟨l,j⟩ nx ⟨hj,hI⟩ hnx
  dsimp only at hj hI
  refine⟨fun q=>?_,fun q=>?_⟩
  ·have q:=lt_t.1 q
   (try dsimp only at q)
   obtain⟨y,hy⟩:=get_lt q
   obtain⟨l1,l2⟩:=List.getElem?_eq_some_iff.1 hy
   refine⟨y,hy,by rw[hI];simp only[List.length_append,List.length_cons,List.length_map,List.length_take,List.length_nil];omega,by omega,hnx _ ⟨q,?_⟩ (by dsimp only;omega)⟩
   dsimp only
   rw[hI,List.take_succ_eq_append_getElem l1,l2,List.map_append,List.append_assoc]
   rfl
  ·have q:=lt_f.1 q
   (try dsimp only at q)
   rw[hI,List.take_of_length_le q]
   exact h
 refine joinI ⟨fun q=>⟨fun _=>hA (.inl (eq_t.1 q)),(fun e=>by cases e)⟩,fun q=>⟨hm,_,hg,⟨fun e=>hA (.inr (eq_t.1 e)),fun e=>?_⟩⟩⟩
 have q:=eq_f.1 q
 have e:=eq_f.1 e
 refine⟨hm,_,hg,joinI ⟨fun e2=>?_,fun e2=>?_⟩⟩
 ·have e2:=eq_t.1 e2
  refine rest _ ?_ (by rw[List.length_set];exact hv) (hB q e2)
  rw[getD_set (by omega),if_pos rfl]
 ·have e2:=eq_f.1 e2
  exact⟨_,hg,fun _=>hC q e2 e,fun e3=>absurd (neq_f.1 e3) e⟩
def Ext (given:List Asg) (t:List Nat):Prop:=∀ a∈given,t.getD a.net 0=a.value
def ClosedAt (c:Circ) (v:List Nat) (i:Nat):Prop:=∀ x,c.nodes[i]?=some x→isFree x.kind=false →
 (gateR x.kind (v.getD i 0) (insV v x)).2.2=true∧Blw (gateR x.kind (v.getD i 0) (insV v x)).1 (v.getD i 0)∧∀ j,Blw ((gateR x.kind (v.getD i 0) (insV v x)).2.1.getD j 0) ((insV v x).getD j 0)
structure CW (c:Circ) (given:List Asg) (t:List Nat):Prop where
 len:t.length=c.nodes.length
 le:∀ i,t.getD i 0≤2
 ext:Ext given t
 cls:∀ i,ClosedAt c t i
structure CI (c:Circ) (given:List Asg) (but:Nat→Prop) (v w:List Nat):Prop where
 len:v.length=c.nodes.length
 le:∀ i,v.getD i 0≤2
 wlt:∀ i∈w,i<c.nodes.length
 bnd:v.count 2*20001+w.length≤2 ^ 30
 snd:∀ t,CW c given t→∀ i,Blw (v.getD i 0) (t.getD i 0)
 cls:∀ i,i<c.nodes.length→but i∨i∈w∨ClosedAt c v i
theorem fan_reads {c:Circ}{i m:Nat}{x:Node} (hx:c.nodes[i]?=some x) (h:m∈x.ins):i∈(fanOf c m).map Ln.node:=by
 have h1:=fan_count c m i
 rw[ins_eq hx] at h1
 have h2:0<x.ins.count m:=List.count_pos_iff.2 h
 rw[← h1,List.countP_pos_iff] at h2
 obtain⟨l,hl,e⟩:=h2
 exact List.mem_map.2 ⟨l,hl,by simpa using e⟩
theorem count_set2 {v:List Nat}{m x:Nat} (hm:m<v.length) (h2:v.getD m 0=2) (hx:x≠2):(v.set m x).count 2+1=v.count 2:=by
 induction v generalizing m with
 |nil=>exact absurd hm (Nat.not_lt_zero _)
 |cons a v ih =>
  cases m with
  |zero =>
   have:a=2:=h2
   subst this
   rw[List.set_cons_zero,List.count_cons,List.count_cons]
   simp[hx]
  |succ m =>
   have:=ih (m:=m) (by simpa using hm) h2
   rw[List.set_cons_succ,List.count_cons,List.count_cons]
   omega
theorem CI.put {c:Circ} (g:Good c) {given:List Asg}{but:Nat→Prop}{v w:List Nat} (I:CI c given but v w) {m x:Nat} (hm:m<c.nodes.length) (h2:v.getD m 0=2) (hx:x≠2) (hle:x≤2) (hs:∀ t,CW c given t→t.getD m 0=x) :
  CI c given but (v.set m x) (w++m::(fanOf c m).map Ln.node)∧(v.set m x).count 2*20001+(w++m::(fanOf c m).map Ln.node).length≤v.count 2*20001+w.length:=by
 have hml:m<v.length:=by rw[I.len];exact hm
 have hfl:=fan_len g hm
 have hc:=count_set2 hml h2 hx
 have hb:=I.bnd
 have hlen:(w++m::(fanOf c m).map Ln.node).length=w.length+1+(fanOf c m).length:=by simp;omega
 have key:(v.set m x).count 2*20001+(w++m::(fanOf c m).map Ln.node).length≤v.count 2*20001+w.length:=by rw[hlen];omega
 refine⟨⟨by rw[List.length_set];exact I.len,fun i=>?_,fun i hi=>?_,by omega,fun t ht i=>?_,fun i hi=>?_⟩,key⟩
 ·rw[getD_set hml]
  split
  ·exact hle
  ·exact I.le i
 ·rcases List.mem_append.1 hi with hi|hi
  ·exact I.wlt i hi
  ·rcases List.mem_cons.1 hi with rfl|hi
   ·exact hm
   ·obtain⟨l,hl,rfl⟩:=List.mem_map.1 hi
    exact fan_lt hl
 ·rw[getD_set hml]
  by_cases e:m=i
  ·subst e;rw[if_pos rfl];exact .inr (hs t ht).symm
  ·rw[if_neg e];exact I.snd t ht i
 ·rcases I.cls i hi with q|q|q
  ·exact .inl q
  ·exact .inr (.inl (List.mem_append_left _ q))
  ·by_cases e:m=i
   ·subst e;exact .inr (.inl (by simp))
   ·obtain⟨y,hy⟩:=get_lt hi
    by_cases e2:m∈y.ins
    ·exact .inr (.inl (List.mem_append_right _ (List.mem_cons_of_mem _ (fan_reads hy e2))))
    ·refine .inr (.inr fun y' hy' hf=>?_)
     rw[hy] at hy';cases hy'
     have e3:insV (v.set m x) y=insV v y:=by
      unfold insV
      refine List.map_congr_left fun k hk=>?_
      rw[getD_set hml,if_neg (fun (q2:m=k)=>e2 (by rw[q2];exact hk))]
     rw[e3,getD_set hml,if_neg e]
     exact q y hy hf
def Few3 (c:Circ):Prop:=∀ (i:Nat) (y:Node),c.nodes[i]?=some y→y.ins.length≤3
theorem getD_out {l:List Nat}{i:Nat} (h:l.length≤i):l.getD i 0=0:=by rw[List.getD,List.getElem?_eq_none h];rfl
theorem insV_le {t:List Nat}{b:Nat} (h:∀ i,t.getD i 0≤b) (x:Node):∀ v∈insV t x,v≤b:=by
 intro v m
 obtain⟨k,_,rfl⟩:=List.mem_map.1 m
 exact h k
theorem insV_getD {t:List Nat}{x:Node}{j y:Nat} (hy:x.ins[j]?=some y):(insV t x).getD j 0=t.getD y 0:=by
 unfold insV;rw[List.getD,List.getElem?_map,hy];rfl
theorem insV_len (t:List Nat) (x:Node):(insV t x).length=x.ins.length:=by unfold insV;simp
structure GS (c:Circ) (given:List Asg) (m:Nat) (v0 w0:List Nat) (v w:List Nat) (done:Prop):Prop where
 inv:CI c given (· = m) v w
 le:v.count 2*20001+w.length≤v0.count 2*20001+w0.length
 mono:∀ i,v0.getD i 0≠2→v.getD i 0=v0.getD i 0
 or:m∈w∨(v=v0∧done)
theorem GS.to {c:Circ}{given:List Asg}{m:Nat}{v0 w0 v w:List Nat}{d d':Prop} (S:GS c given m v0 w0 v w d) (h:v=v0→d→d'):GS c given m v0 w0 v w d':=⟨S.inv,S.le,S.mono,S.or.imp_right fun ⟨a,b⟩=>⟨a,h a b⟩⟩
theorem gput_vc {c:Circ} (p:Pln c) {given:List Asg}{m:Nat}{v0 w0 v w:List Nat}{d:Prop}{y x:Nat}{K:Bool×List Nat×List Nat→Prop} (S:GS c given m v0 w0 v w d) (hy:y<c.nodes.length) (hx:x≤2)
  (hs:∀ t,CW c given t→Blw x (t.getD y 0)) (hr:y=m∨∃ z,c.nodes[m]?=some z∧y∈z.ins)
  (h1:∀ v' w',GS c given m v0 w0 v' w' (d∧Blw x (v0.getD y 0))→K (true,v',w'))
  (h2:∀ v' w',(∀ t,¬ CW c given t)→K (false,v',w')) :
  work_put_wp c.nodes c.names c.mems c.outs (fanL c) c.nodes.length v w y x K:=by
 have hb:=S.inv.bnd
 refine put_vc p.good S.inv.len hy (by omega) (fun q=>h1 v w (S.to fun e hd=>⟨hd,?_⟩)) (fun q1 q2=>h1 _ _ ?_) (fun q1 q2 q3=>h2 _ _ fun t ht=>?_)
 ·rcases q with q|q
  ·exact .inl q
  ·rw[e] at q;exact .inr q.symm
 ·obtain⟨I,hle⟩:=S.inv.put p.good hy q2 q1 hx fun t ht=>((hs t ht).resolve_left q1).symm
  refine⟨I,Nat.le_trans hle S.le,fun i hi=>?_,.inl ?_⟩
  ·have hyl:y<v.length:=by rw[S.inv.len];exact hy
   rw[getD_set hyl]
   by_cases e:y=i
   ·subst e
    have:=S.mono y hi
    rw[q2] at this
    exact absurd this.symm hi
   ·rw[if_neg e];exact S.mono i hi
  ·rcases hr with rfl|⟨z,hz,hm⟩
   ·simp
   ·exact List.mem_append_right _ (List.mem_cons_of_mem _ (fan_reads hz hm))
 ·have a:=(hs t ht).resolve_left q1
  have b:=(S.inv.snd t ht y).resolve_left q2
  rw[a,b] at q3
  exact q3 rfl
theorem gate_vc {c:Circ} (p:Pln c) (f3:Few3 c) {given:List Asg}{m:Nat}{v0 w0:List Nat}{z:Node}{K:Bool×List Nat×List Nat→Prop} (hz:c.nodes[m]?=some z) (hf:isFree z.kind=false)
  (I:CI c given (· = m) v0 w0)
  (h1:∀ v w,CI c given (fun _=>False) v w→v.count 2*20001+w.length≤v0.count 2*20001+w0.length→(∀ i,v0.getD i 0≠2→v.getD i 0=v0.getD i 0)→K (true,v,w))
  (h2:∀ v w,(∀ t,¬ CW c given t)→K (false,v,w)) :
  work_gate_wp c.nodes c.names c.mems c.outs (fanL c) c.nodes.length v0 w0 m K:=by
 have hm:=lt_of_get hz
 have hg:=p.gate hz hf
 have G:=p.good.node m z hz
 have hl3:=f3 m z hz
 have hlen:=p.good.len
 have F:GF z.kind (v0.getD m 0) (insV v0 z):=gf hg.1 hg.2 (by rw[insV_len];exact G.arity) (by rw[insV_len];exact hl3) (I.le m) (insV_le I.le z)
 have sound:∀ t,CW c given t→(gateR z.kind (v0.getD m 0) (insV v0 z)).2.2=true∧Blw (gateR z.kind (v0.getD m 0) (insV v0 z)).1 (t.getD m 0)∧∀ j,Blw ((gateR z.kind (v0.getD m 0) (insV v0 z)).2.1.getD j 0) ((insV t z).getD j 0):=by
  intro t ht
  obtain⟨k1,k2,k3⟩:=ht.cls m z hz hf
  have M:=(gate_mono (o:=v0.getD m 0) (l:=insV v0 z) hg.1 hg.2 (by rw[insV_len];exact G.arity) (by rw[insV_len];exact hl3) (ht.le m) (insV_le ht.le z) (I.snd t ht m) (by rw[insV_len,insV_len]) (fun j=>?_) k1).1
  ·exact⟨M.1,M.2.1.trans k2,fun j=>(M.2.2 j).trans (k3 j)⟩
  ·by_cases hj:j<z.ins.length
   ·obtain⟨y,hy⟩:=get_lt hj
    rw[insV_getD hy,insV_getD hy]
    exact I.snd t ht y
   ·rw[getD_out (by rw[insV_len];omega),getD_out (by rw[insV_len];omega)]
    exact .inr rfl
 unfold work_gate_wp
 refine⟨z,hz,by omega,by omega,?_⟩
 refine joinLoop (fun s=>s.2≤z.ins.length∧s.1.length=z.ins.length∧∀ j,j<s.2→s.1.getD j 0=(insV v0 z).getD j 0) (fun s=>z.ins.length-s.2) (fun a=>a=insV v0 z) ?_ ⟨Nat.zero_le _,by simp,fun j hj=>absurd hj (Nat.not_lt_zero _)⟩ ?_
 ·rintro k2 ⟨l,j⟩ nx2 ⟨hj,hl,hI2⟩ hnx2 hk2
  dsimp only at hj hl hI2
  refine⟨fun q2=>?_,fun q2=>?_⟩
  ·have q2:=lt_t.1 q2
   (try dsimp only at q2)
   obtain⟨y,hy⟩:=get_lt q2
   have hyn:=G.ins y (List.mem_of_getElem? hy)
   refine⟨y,hy,hyn,_,getN I.len hyn,q2,_,getN hl q2,by omega,hnx2 _ ⟨q2,by simpa using hl,fun j' hj'=>?_⟩ (by dsimp only;omega)⟩
   dsimp only at hj' ⊢
   rw[getD_set (by omega)]
   by_cases e:j=j'
   ·subst e;rw[if_pos rfl,insV_getD hy]
   ·rw[if_neg e];exact hI2 j' (by omega)
  ·have q2:=lt_f.1 q2
   (try dsimp only at q2)
   refine hk2 l (List.ext_getElem? fun j'=>?_)
   by_cases e:j'<z.ins.length
   ·rw[getN hl e,getN (insV_len v0 z) e,hI2 j' (by omega)]
   ·rw[List.getElem?_eq_none (by omega),List.getElem?_eq_none (by rw[insV_len];omega)]
 rintro a rfl
 refine⟨hm,_,getN I.len hm,(insV_len v0 z).symm,by omega,by rw[insV_len];omega,F.ok,?_⟩
 generalize hr:gateR z.kind (v0.getD m 0) (insV v0 z)=r at F sound ⊢
 have hle:=F.le
 rw[hr] at hle
 refine joinI ⟨fun q=>⟨fun _=>h2 _ _ fun t ht=>?_,(fun e=>by cases e)⟩,fun q=>?_⟩
 ·have:=(sound t ht).1
  rw[this] at q;cases q
 have hok:r.2.2=true:=by simpa using q
 obtain⟨le1,le2,le3⟩:=hle hok
 have S0:GS c given m v0 w0 v0 w0 True:=⟨I,Nat.le_refl _,fun _ _=>rfl,.inr ⟨rfl,trivial⟩⟩
 refine gput_vc p S0 hm le1 (fun t ht=>(sound t ht).2.1) (.inl rfl) (fun v w S=>⟨(fun e=>by cases e),fun _=>?_⟩) (fun v w hn=>⟨fun _=>h2 _ _ hn,(fun e=>by cases e)⟩)
 refine joinLoop (fun s=>s.2.2≤z.ins.length∧GS c given m v0 w0 s.1 s.2.1 ((True∧Blw r.1 (v0.getD m 0))∧∀ j,j<s.2.2→Blw (r.2.1.getD j 0) ((insV v0 z).getD j 0))) (fun s=>z.ins.length-s.2.2) (fun s=>GS c given m v0 w0 s.1 s.2 ((True∧Blw r.1 (v0.getD m 0))∧∀ j,j<z.ins.length→Blw (r.2.1.getD j 0) ((insV v0 z).getD j 0))) ?_ ⟨Nat.zero_le _,S.to fun _ d=>⟨d,fun j hj=>absurd hj (Nat.not_lt_zero _)⟩⟩ ?_
 ·rintro k ⟨v,w,j⟩ nx ⟨hj,S⟩ hnx hk
  dsimp only at hj S
  refine⟨fun q=>?_,fun q=>?_⟩
  ·have q:=lt_t.1 q
   (try dsimp only at q)
   obtain⟨y,hy⟩:=get_lt q
   have hyn:=G.ins y (List.mem_of_getElem? hy)
   have hjr:j<r.2.1.length:=by rw[le2,insV_len];exact q
   refine⟨y,hy,_,getD_some hjr,gput_vc p S hyn (le3 _ (getD_mem hjr)) (fun t ht=>?_) (.inr ⟨z,hz,List.mem_of_getElem? hy⟩) (fun v' w' S'=>⟨(fun e=>by cases e),fun _=>⟨by omega,hnx _ ⟨q,?_⟩ (by dsimp only;omega)⟩⟩) (fun v' w' hn=>⟨fun _=>h2 _ _ hn,(fun e=>by cases e)⟩)⟩
   ·have:=(sound t ht).2.2 j
    rw[insV_getD hy] at this
    exact this
   ·refine S'.to fun _ d=>⟨d.1.1,fun j' hj'=>?_⟩
    by_cases e:j'=j
    ·subst e;rw[insV_getD hy];exact d.2
    ·exact d.1.2 j' (by dsimp only at hj';omega)
  ·have q:=lt_f.1 q
   (try dsimp only at q)
   exact hk (v,w) (S.to fun _ d=>⟨d.1,fun j' hj'=>d.2 j' (by omega)⟩)
 ·rintro⟨v,w⟩ S
  dsimp only at S
  have I2:=S.inv
  refine h1 v w ⟨I2.len,I2.le,I2.wlt,I2.bnd,I2.snd,fun i hi=>?_⟩ S.le S.mono
  rcases I2.cls i hi with q|q
  ·subst q
   rcases S.or with q|⟨rfl,⟨_,d1⟩,d2⟩
   ·exact .inr (.inl q)
   ·refine .inr (.inr fun z' hz' _=>?_)
    rw[hz] at hz';cases hz'
    rw[hr]
    refine⟨hok,d1,fun j=>?_⟩
    by_cases e:j<z.ins.length
    ·exact d2 j e
    ·rw[getD_out (by rw[le2,insV_len];omega),getD_out (by rw[insV_len];omega)]
     exact .inr rfl
  ·exact .inr q
structure CloseOk (c:Circ) (given:List Asg) (v:List Nat):Prop where
 len:v.length=c.nodes.length
 le:∀ i,v.getD i 0≤2
 snd:∀ t,CW c given t→∀ i,Blw (v.getD i 0) (t.getD i 0)
 cls:∀ i,i<c.nodes.length→ClosedAt c v i
 giv:∀ a∈given,v.getD a.net 0=a.value
theorem close_vc {c:Circ} (p:Pln c) (f3:Few3 c) {given:List Asg} (hg:∀ a∈given,a.net<c.nodes.length∧a.value≤1) (hl:given.length<2 ^ 60) {K:List Nat×Bool×Nat→Prop}
  (h1:∀ v,CloseOk c given v→K (v,true,0)) (h2:(∀ t,¬ CW c given t)→K ([],false,0)):implies_Close_wp c given K:=by
 have hlen:=p.good.len
 unfold implies_Close_wp
 refine plain_vc p ⟨fun q=>absurd rfl (ne_t.1 q),fun _=>?_⟩
 refine search_none (l:=given) ?_ ?_ ?_
 ·intro k i nx a ha hi hn
  obtain⟨g1,g2⟩:=hg a (List.mem_of_getElem? ha)
  refine⟨fun _=>⟨a,ha,joinI ⟨fun q=>absurd (lt_t.1 q) (Nat.not_lt_zero _),fun _=>⟨fun q=>absurd (nlt_t.1 q) (by omega),fun _=>known_vc ?_⟩⟩⟩,fun q=>?_⟩
  ·rw[decide_eq_true g2]
   exact⟨(fun e=>by cases e),fun _=>⟨by omega,hn⟩⟩
  ·have:=lt_f.1 q;omega
 ·intro k i nx hi hk
  refine⟨fun q=>?_,fun _=>hk⟩
  have:=lt_t.1 q;omega
 refine fanout_vc p.good.fanOk ⟨by omega,by omega,?_⟩
 refine joinLoop (fun s=>s.2.2≤c.nodes.length∧s.1.length=c.nodes.length∧(∀ j,j<s.2.2→s.1.getD j 0=2)∧s.2.1=List.range s.2.2) (fun s=>c.nodes.length-s.2.2) (fun s=>s.1.length=c.nodes.length∧(∀ j,j<c.nodes.length→s.1.getD j 0=2)∧s.2=List.range c.nodes.length) ?_ ⟨Nat.zero_le _,by simp,(fun j hj=>absurd hj (Nat.not_lt_zero _)),rfl⟩ ?_
 ·rintro k ⟨v,w,i⟩ nx ⟨hi,h3,h4,h5⟩ hnx hk
  dsimp only at hi h3 h4 h5
  refine⟨fun q=>?_,fun q=>?_⟩
  ·have q:=lt_t.1 q
   (try dsimp only at q)
   refine⟨q,_,getN h3 q,by rw[h5];simp only[List.length_range,List.length_singleton];omega,by omega,hnx _ ⟨q,by simpa using h3,fun j hj=>?_,?_⟩ (by dsimp only;omega)⟩
   ·dsimp only at hj ⊢
    rw[getD_set (by omega)]
    by_cases e:i=j
    ·rw[if_pos e]
    ·rw[if_neg e];exact h4 j (by omega)
   ·dsimp only
    rw[h5,List.range_succ]
  ·have q:=lt_f.1 q
   (try dsimp only at q)
   have:i=c.nodes.length:=by omega
   subst this
   exact hk (v,w) ⟨h3,h4,h5⟩
 rintro⟨v,w⟩ ⟨h3,h4,h5⟩
 dsimp only at h3 h4 h5
 subst h5
 have I0:CI c given (fun _=>False) v (List.range c.nodes.length):=by
  refine⟨h3,fun i=>?_,fun i m=>List.mem_range.1 m,?_,fun t ht i=>?_,fun i hi=>.inr (.inl (List.mem_range.2 hi))⟩
  ·by_cases e:i<c.nodes.length
   ·rw[h4 i e];exact Nat.le_refl _
   ·rw[getD_out (by omega)];exact Nat.zero_le _
  ·have:v.count 2≤v.length:=List.count_le_length
   rw[List.length_range];omega
  ·by_cases e:i<c.nodes.length
   ·exact .inl (h4 i e)
   ·rw[getD_out (by omega),getD_out (by rw[ht.len];omega)]
    exact .inr rfl
 refine joinLoop (fun s=>s.2.2≤given.length∧CI c given (fun _=>False) s.1 s.2.1∧∀ a∈given.take s.2.2,s.1.getD a.net 0=a.value) (fun s=>given.length-s.2.2) (fun s=>CI c given (fun _=>False) s.1 s.2∧∀ a∈given,s.1.getD a.net 0=a.value) ?_ ⟨Nat.zero_le _,I0,fun a m=>by simp at m⟩ ?_
 ·rintro k ⟨v,w,i⟩ nx ⟨hi,I,hv⟩ hnx hk
  dsimp only at hi I hv
  refine⟨fun q=>?_,fun q=>?_⟩
  ·have q:=lt_t.1 q
   (try dsimp only at q)
   obtain⟨a,ha⟩:=get_lt q
   obtain⟨l1,l2⟩:=List.getElem?_eq_some_iff.1 ha
   have hmem:=List.mem_of_getElem? ha
   obtain⟨g1,g2⟩:=hg a hmem
   have hb:=I.bnd
   have tk:∀ a'∈given.take (i+1),a'∈given.take i∨a'=a:=by
    intro a' m
    rw[List.take_succ_eq_append_getElem l1,l2] at m
    rcases List.mem_append.1 m with m|m
    ·exact .inl m
    ·exact .inr (List.mem_singleton.1 m)
   refine⟨a,ha,put_vc p.good I.len g1 (by omega) (fun e=>⟨(fun e2=>by cases e2),fun _=>⟨by omega,hnx _ ⟨q,I,fun a' m=>?_⟩ (by dsimp only;omega)⟩⟩) (fun e1 e2=>⟨(fun e3=>by cases e3),fun _=>⟨by omega,hnx _ ⟨q,(I.put p.good g1 e2 e1 (by omega) fun t ht=>ht.ext a hmem).1,fun a' m=>?_⟩ (by dsimp only;omega)⟩⟩) (fun e1 e2 e3=>⟨fun _=>h2 fun t ht=>?_,(fun e=>by cases e)⟩)⟩
   ·rcases tk a' m with m|rfl
    ·exact hv a' m
    ·rcases e with e|e
     ·omega
     ·exact e
   ·have hnl:a.net<v.length:=by rw[I.len];exact g1
    dsimp only
    rw[getD_set hnl]
    rcases tk a' m with m|rfl
    ·have e4:=hv a' m
     by_cases e:a.net=a'.net
     ·have:=(hg a' (List.mem_of_mem_take m)).2
      rw[← e,e2] at e4
      omega
     ·rw[if_neg e];exact e4
    ·rw[if_pos rfl]
   ·have b1:=(I.snd t ht a.net).resolve_left e2
    rw[ht.ext a hmem] at b1
    exact e3 b1
  ·have q:=lt_f.1 q
   (try dsimp only at q)
   exact hk (v,w) ⟨I,fun a m=>hv a (by rw[List.take_of_length_le q];exact m)⟩
 rintro⟨v,w⟩ ⟨I,hv⟩
 dsimp only at I hv
 refine joinLoop (fun s=>CI c given (fun _=>False) s.1 s.2∧∀ a∈given,s.1.getD a.net 0=a.value) (fun s=>s.1.count 2*20001+s.2.length) (fun s=>CloseOk c given s.1) ?_ ⟨I,hv⟩ ?_
 ·rintro k ⟨v,w⟩ nx ⟨I,hv⟩ hnx hk
  dsimp only at I hv
  refine⟨fun q=>?_,fun q=>?_⟩
  ·have q:=lt_t.1 q
   (try dsimp only at q)
   obtain⟨m,w',rfl⟩:∃ m w',w=m::w':=by
    cases w with
    |nil=>exact absurd q (Nat.lt_irrefl _)
    |cons m w'=>exact⟨m,w',rfl⟩
   have hm:=I.wlt m (by simp)
   obtain⟨z,hz⟩:=get_lt hm
   have hb:=I.bnd
   rw[List.length_cons] at hb
   refine⟨m,rfl,by rw[List.length_cons];omega,z,hz,free_vc ⟨fun e=>?_,fun e=>?_⟩⟩
   ·refine hnx _ ⟨⟨I.len,I.le,fun i hi=>I.wlt i (List.mem_cons_of_mem _ hi),by simp only[List.drop_succ_cons,List.drop_zero];omega,I.snd,fun i hi=>?_⟩,hv⟩ (by simp)
    rcases I.cls i hi with r|r|r
    ·exact .inl r
    ·rcases List.mem_cons.1 r with rfl|r
     ·refine .inr (.inr fun z' hz' hf=>?_)
      rw[hz] at hz';cases hz'
      rw[e] at hf;cases hf
     ·exact .inr (.inl r)
    ·exact .inr (.inr r)
   ·have I':CI c given (· = m) v w':=by
     refine⟨I.len,I.le,fun i hi=>I.wlt i (List.mem_cons_of_mem _ hi),by omega,I.snd,fun i hi=>?_⟩
     rcases I.cls i hi with r|r|r
     ·exact r.elim
     ·rcases List.mem_cons.1 r with rfl|r
      ·exact .inl rfl
      ·exact .inr (.inl r)
     ·exact .inr (.inr r)
    refine gate_vc p f3 hz e I' (fun v2 w2 I2 hle hmono=>⟨(fun e2=>by cases e2),fun _=>hnx _ ⟨I2,fun a ha=>?_⟩ ?_⟩) (fun v2 w2 hn=>⟨fun _=>h2 hn,(fun e2=>by cases e2)⟩)
    ·have e3:=hv a ha
     have:=(hg a ha).2
     have e4:=hmono a.net (by omega)
     dsimp only
     rw[e4,e3]
    ·dsimp only
     have e5:(m::w').length=w'.length+1:=List.length_cons
     have hle:v2.count 2*20001+w2.length≤v.count 2*20001+w'.length:=hle
     omega
  ·have q:=lt_f.1 q
   (try dsimp only at q)
   have e:w=[]:=List.length_eq_zero_iff.1 (by omega)
   subst e
   refine hk (v,[]) ⟨I.len,I.le,I.snd,fun i hi=>?_,hv⟩
   rcases I.cls i hi with r|r|r
   ·exact r.elim
   ·cases r
   ·exact r
 ·rintro⟨v,w⟩ C
  exact⟨C.len.symm,by rw[C.len];exact p.good.pos,h1 v C⟩
theorem CloseOk.cw {c:Circ}{given:List Asg}{v:List Nat} (C:CloseOk c given v):CW c given v :=
 ⟨C.len,C.le,C.giv,fun i=>by
  by_cases h:i<c.nodes.length
  ·exact C.cls i h
  ·intro x hx _;exact absurd (lt_of_get hx) h⟩
theorem blw_antisymm {v w:List Nat} (hl:v.length=w.length) (h1:∀ i,Blw (v.getD i 0) (w.getD i 0)) (h2:∀ i,Blw (w.getD i 0) (v.getD i 0)):v=w:=by
 refine List.ext_getElem hl fun i a b=>?_
 have e1:=h1 i
 have e2:=h2 i
 rw[List.getD,List.getElem?_eq_getElem a,List.getD,List.getElem?_eq_getElem b] at e1
 rw[List.getD,List.getElem?_eq_getElem b,List.getD,List.getElem?_eq_getElem a] at e2
 simp only[Option.getD_some] at e1 e2
 rcases e1 with e1|e1
 ·rcases e2 with e2|e2
  ·omega
  ·omega
 ·exact e1
theorem CloseOk.eq {c:Circ}{given:List Asg}{v w:List Nat} (C:CloseOk c given v) (D:CloseOk c given w):v=w :=
 blw_antisymm (C.len.trans D.len.symm) (C.snd w D.cw) (D.snd v C.cw)
open Classical in
noncomputable def clo (c:Circ) (given:List Asg):Option (List Nat):=if h:∃ v,CloseOk c given v then some (Classical.choose h) else none
theorem clo_ok {c:Circ}{given:List Asg}{v:List Nat} (C:CloseOk c given v):clo c given=some v:=by
 unfold clo
 rw[dif_pos ⟨v,C⟩]
 exact congrArg some ((Classical.choose_spec (⟨v,C⟩:∃ v,CloseOk c given v)).eq C)
theorem clo_none {c:Circ}{given:List Asg} (n:∀ t,¬ CW c given t):clo c given=none:=by
 unfold clo
 rw[dif_neg (fun ⟨v,C⟩=>n v C.cw)]
theorem clo_some {c:Circ}{given:List Asg}{v:List Nat} (h:clo c given=some v):CloseOk c given v:=by
 unfold clo at h
 split at h
 ·rename_i e
  cases h
  exact Classical.choose_spec e
 ·cases h
def cloR (o:Option (List Nat)):List Nat×Bool×Nat:=match o with
 |some v=>(v,true,0)
 |none=>([],false,0)
structure GivOk (c:Circ) (given:List Asg):Prop where
 ok:∀ a∈given,a.net<c.nodes.length∧a.value≤1
 len:given.length<2 ^ 60
theorem clo_cases {c:Circ} (p:Pln c) (f3:Few3 c) {given:List Asg} (g:GivOk c given):(∃ v,CloseOk c given v∧clo c given=some v)∨((∀ t,¬ CW c given t)∧clo c given=none):=by
 have:=close_vc p f3 g.ok g.len (K:=fun r=>(∃ v,CloseOk c given v∧r=cloR (some v))∨((∀ t,¬ CW c given t)∧r=cloR none)) (fun v C=>.inl ⟨v,C,rfl⟩) (fun n=>.inr ⟨n,rfl⟩)
 obtain⟨r,h|h,_⟩:=implies_Close_walk this (h0:=heapOf vars) (fun i o e=>by rw[heapOf_get];exact e)
 ·obtain⟨v,C,_⟩:=h
  exact .inl ⟨v,C,clo_ok C⟩
 ·exact .inr ⟨h.1,clo_none h.1⟩
theorem clo_vc {c:Circ} (p:Pln c) (f3:Few3 c) {given:List Asg} (g:GivOk c given) {K:List Nat×Bool×Nat→Prop} (h:K (cloR (clo c given))):implies_Close_wp c given K:=by
 refine close_vc p f3 g.ok g.len (fun v C=>?_) fun n=>?_
 ·rw[clo_ok C] at h;exact h
 ·rw[clo_none n] at h;exact h
theorem clo_no {c:Circ} (p:Pln c) (f3:Few3 c) {given:List Asg} (g:GivOk c given) (h:clo c given=none):∀ t,¬ CW c given t:=by
 rcases clo_cases p f3 g with⟨v,_,e⟩|⟨n,_⟩
 ·rw[h] at e;cases e
 ·exact n
def putF (v:List Nat) (m x:Nat):Option (List Nat) :=
 if x=2 then some v else if v.getD m 0=2 then some (v.set m x) else if v.getD m 0=x then some v else none
def putsF (v:List Nat):List (Nat×Nat)→Option (List Nat)
 |[]=>some v
 |(m,x)::r=>match putF v m x with
  |some v=>putsF v r
  |none=>none
def gateF (c:Circ) (v:List Nat) (i:Nat):Option (List Nat):=match c.nodes[i]? with
 |some z=>match isFree z.kind with
  |true=>some v
  |false=>match gateR z.kind (v.getD i 0) (insV v z) with
   |(o,ins,ok)=>match ok with
    |true=>putsF v ((i,o)::z.ins.zip ins)
    |false=>none
 |none=>some v
def passF (c:Circ) (v:List Nat):List Nat→Option (List Nat)
 |[]=>some v
 |i::r=>match gateF c v i with
  |some v=>passF c v r
  |none=>none
def iterF (c:Circ):Nat→List Nat→Option (List Nat)
 |0,v=>some v
 |n+1,v=>match passF c v (List.range c.nodes.length) with
  |some v=>iterF c n v
  |none=>none
def closeF (c:Circ) (given:List Asg):Option (List Nat):=match putsF (List.replicate c.nodes.length 2) (given.map fun a=>(a.net,a.value)) with
 |some v=>iterF c c.nodes.length v
 |none=>none
structure UnderF (c:Circ) (given:List Asg) (v:List Nat):Prop where
 len:v.length=c.nodes.length
 le:∀ i,v.getD i 0≤2
 snd:∀ t,CW c given t→∀ i,Blw (v.getD i 0) (t.getD i 0)
theorem put_under {c:Circ}{given:List Asg}{v:List Nat} (U:UnderF c given v) {m x:Nat} (hm:m<c.nodes.length) (hx:x≤2) (hs:∀ t,CW c given t→Blw x (t.getD m 0)) :
  (∀ w,putF v m x=some w→UnderF c given w)∧(putF v m x=none→∀ t,¬ CW c given t):=by
 have hml:m<v.length:=by rw[U.len];exact hm
 unfold putF
 split
 ·exact⟨fun w e=>by cases e;exact U,fun e=>by cases e⟩
 rename_i h2
 split
 ·refine⟨fun w e=>?_,fun e=>by cases e⟩
  cases e
  refine⟨by rw[List.length_set];exact U.len,fun i=>?_,fun t ht i=>?_⟩
  ·rw[getD_set hml];split
   ·exact hx
   ·exact U.le i
  ·rw[getD_set hml];split
   ·rename_i e;subst e;exact hs t ht
   ·exact U.snd t ht i
 rename_i h3
 split
 ·exact⟨fun w e=>by cases e;exact U,fun e=>by cases e⟩
 rename_i h4
 refine⟨(fun w e=>by cases e),fun _ t ht=>?_⟩
 have a:=(hs t ht).resolve_left h2
 have b:=(U.snd t ht m).resolve_left h3
 exact h4 (b.trans a.symm)
theorem puts_under {c:Circ}{given:List Asg}:∀ {l:List (Nat×Nat)}{v:List Nat},UnderF c given v→(∀ q∈l,q.1<c.nodes.length∧q.2≤2∧∀ t,CW c given t→Blw q.2 (t.getD q.1 0)) →
  (∀ w,putsF v l=some w→UnderF c given w)∧(putsF v l=none→∀ t,¬ CW c given t)
 |[],v,U,_=>⟨fun w e=>by cases e;exact U,fun e=>by cases e⟩
 |(m,x)::r,v,U,h=>by
  obtain⟨h1,h2,h3⟩:=h (m,x) (by simp)
  obtain⟨k1,k2⟩:=put_under U h1 h2 h3
  unfold putsF
  cases e:putF v m x with
  |some v'=>exact puts_under (k1 v' e) fun q m=>h q (by simp[m])
  |none=>exact⟨(fun w q=>by cases q),fun _=>k2 e⟩
theorem gate_under {c:Circ} (p:Pln c) (f3:Few3 c) {given:List Asg}{v:List Nat} (U:UnderF c given v) (m:Nat) :
  (∀ w,gateF c v m=some w→UnderF c given w)∧(gateF c v m=none→∀ t,¬ CW c given t):=by
 unfold gateF
 cases hz:c.nodes[m]? with
 |none=>exact⟨fun w e=>by cases e;exact U,fun e=>by cases e⟩
 |some z =>
  dsimp only
  cases hf:isFree z.kind with
  |true=>exact⟨fun w e=>by cases e;exact U,fun e=>by cases e⟩
  |false =>
   dsimp only
   have hm:=lt_of_get hz
   have hg:=p.gate hz hf
   have G:=p.good.node m z hz
   have hl3:=f3 m z hz
   have F:GF z.kind (v.getD m 0) (insV v z):=gf hg.1 hg.2 (by rw[insV_len];exact G.arity) (by rw[insV_len];exact hl3) (U.le m) (insV_le U.le z)
   have sound:∀ t,CW c given t→(gateR z.kind (v.getD m 0) (insV v z)).2.2=true∧Blw (gateR z.kind (v.getD m 0) (insV v z)).1 (t.getD m 0)∧∀ j,Blw ((gateR z.kind (v.getD m 0) (insV v z)).2.1.getD j 0) ((insV t z).getD j 0):=by
    intro t ht
    obtain⟨k1,k2,k3⟩:=ht.cls m z hz hf
    have M:=(gate_mono (o:=v.getD m 0) (l:=insV v z) hg.1 hg.2 (by rw[insV_len];exact G.arity) (by rw[insV_len];exact hl3) (ht.le m) (insV_le ht.le z) (U.snd t ht m) (by rw[insV_len,insV_len]) (fun j=>?_) k1).1
    ·exact⟨M.1,M.2.1.trans k2,fun j=>(M.2.2 j).trans (k3 j)⟩
    ·by_cases hj:j<z.ins.length
     ·obtain⟨y,hy⟩:=get_lt hj
      rw[insV_getD hy,insV_getD hy]
      exact U.snd t ht y
     ·rw[getD_out (by rw[insV_len];omega),getD_out (by rw[insV_len];omega)]
      exact .inr rfl
   generalize hr:gateR z.kind (v.getD m 0) (insV v z)=r at F sound
   obtain⟨o,ins,ok⟩:=r
   have FL:=F.le
   rw[hr] at FL
   dsimp only at sound FL ⊢
   cases ok with
   |false=>exact⟨(fun w e=>by cases e),fun _ t ht=>by have:=(sound t ht).1;cases this⟩
   |true =>
    obtain⟨b1,b2,b3⟩:=FL rfl
    refine puts_under U fun q hq=>?_
    rcases List.mem_cons.1 hq with rfl|hq
    ·exact⟨hm,b1,fun t ht=>(sound t ht).2.1⟩
    ·obtain⟨y,x⟩:=q
     obtain⟨j,hj,e⟩:=List.getElem_of_mem hq
     have hj1:j<z.ins.length:=by rw[List.length_zip] at hj;omega
     have hj2:j<ins.length:=by rw[List.length_zip] at hj;omega
     rw[List.getElem_zip] at e
     cases e
     refine⟨G.ins _ (List.getElem_mem hj1),b3 _ (List.getElem_mem hj2),fun t ht=>?_⟩
     have:=(sound t ht).2.2 j
     rw[insV_getD (List.getElem?_eq_getElem hj1),List.getD,List.getElem?_eq_getElem hj2] at this
     exact this
theorem pass_under {c:Circ} (p:Pln c) (f3:Few3 c) {given:List Asg}:∀ {l:List Nat}{v:List Nat},UnderF c given v→(∀ w,passF c v l=some w→UnderF c given w)∧(passF c v l=none→∀ t,¬ CW c given t)
 |[],v,U=>⟨fun w e=>by cases e;exact U,fun e=>by cases e⟩
 |i::r,v,U=>by
  obtain⟨k1,k2⟩:=gate_under p f3 U i
  unfold passF
  cases e:gateF c v i with
  |some v'=>exact pass_under p f3 (k1 v' e)
  |none=>exact⟨(fun w q=>by cases q),fun _=>k2 e⟩
theorem iter_under {c:Circ} (p:Pln c) (f3:Few3 c) {given:List Asg}:∀ {n:Nat}{v:List Nat},UnderF c given v→(∀ w,iterF c n v=some w→UnderF c given w)∧(iterF c n v=none→∀ t,¬ CW c given t)
 |0,v,U=>⟨fun w e=>by cases e;exact U,fun e=>by cases e⟩
 |n+1,v,U=>by
  obtain⟨k1,k2⟩:=pass_under p f3 U (l:=List.range c.nodes.length)
  unfold iterF
  cases e:passF c v (List.range c.nodes.length) with
  |some v'=>exact iter_under p f3 (k1 v' e)
  |none=>exact⟨(fun w q=>by cases q),fun _=>k2 e⟩
def closedB (c:Circ) (v:List Nat):Bool:=(List.range c.nodes.length).all fun i=>match c.nodes[i]? with
 |some z=>isFree z.kind||match gateR z.kind (v.getD i 0) (insV v z) with
  |(o,ins,ok)=>ok&&blw o (v.getD i 0)&&blwL ins (insV v z)
 |none=>true
theorem closedB_ok {c:Circ}{v:List Nat} (h:closedB c v=true):∀ i,i<c.nodes.length→ClosedAt c v i:=by
 intro i hi z hz hf
 have q:=List.all_eq_true.1 h i (List.mem_range.2 hi)
 rw[hz] at q
 dsimp only at q
 rw[hf,Bool.false_or] at q
 generalize gateR z.kind (v.getD i 0) (insV v z)=r at q
 obtain⟨o,ins,ok⟩:=r
 dsimp only at q ⊢
 rw[Bool.and_eq_true,Bool.and_eq_true,blw_iff,blwL_iff] at q
 exact⟨q.1.1,q.1.2,q.2.2⟩
theorem closeF_under {c:Circ} (p:Pln c) (f3:Few3 c) {given:List Asg} (g:GivOk c given):(∀ v,closeF c given=some v→UnderF c given v)∧(closeF c given=none→∀ t,¬ CW c given t):=by
 have U0:UnderF c given (List.replicate c.nodes.length 2):=by
  refine⟨List.length_replicate ..,fun i=>?_,fun t ht i=>?_⟩
  ·rw[List.getD,List.getElem?_replicate];split <;> simp
  ·by_cases hi:i<c.nodes.length
   ·left;rw[List.getD,List.getElem?_replicate,if_pos hi];rfl
   ·right;rw[getD_out (by rw[List.length_replicate];omega),getD_out (by rw[ht.len];omega)]
 obtain⟨k1,k2⟩:=puts_under U0 (l:=given.map fun a=>(a.net,a.value)) fun q m=>by
  obtain⟨a,ha,rfl⟩:=List.mem_map.1 m
  obtain⟨a1,a2⟩:=g.ok a ha
  exact⟨a1,by dsimp only;omega,fun t ht=>.inr (ht.ext a ha).symm⟩
 unfold closeF
 cases e:putsF (List.replicate c.nodes.length 2) (given.map fun a=>(a.net,a.value)) with
 |some v=>exact iter_under p f3 (k1 v e)
 |none=>exact⟨(fun w q=>by cases q),fun _=>k2 e⟩
def closeC (c:Circ) (given:List Asg) (v:List Nat):Bool:=match closeF c given with
 |some w=>eqLs v w&&closedB c w&&given.all fun a=>Nat.beq (w.getD a.net 0) a.value
 |none=>false
theorem eqLs_iff:∀ {l m:List Nat},eqLs l m=true→l=m
 |[],[],_=>rfl
 |[],_::_,h=>by cases h
 |_::_,[],h=>by cases h
 |a::l,b::m,h=>by
  unfold eqLs at h
  rw[Bool.and_eq_true,Nat.beq_eq] at h
  rw[h.1,eqLs_iff h.2]
theorem closeC_ok {c:Circ} (p:Pln c) (f3:Few3 c) {given:List Asg} (g:GivOk c given) {v:List Nat} (h:closeC c given v=true):clo c given=some v:=by
 unfold closeC at h
 cases e:closeF c given with
 |none=>rw[e] at h;cases h
 |some w =>
  rw[e] at h
  dsimp only at h
  rw[Bool.and_eq_true,Bool.and_eq_true] at h
  obtain⟨⟨h1,h2⟩,h3⟩:=h
  rw[eqLs_iff h1]
  have U:=(closeF_under p f3 g).1 w e
  exact clo_ok ⟨U.len,U.le,U.snd,closedB_ok h2,fun a m=>Nat.eq_of_beq_eq_true (List.all_eq_true.1 h3 a m)⟩
theorem closeN_ok {c:Circ} (p:Pln c) (f3:Few3 c) {given:List Asg} (g:GivOk c given) (h:closeF c given=none):clo c given=none:=clo_none ((closeF_under p f3 g).2 h)
structure CC (c:Circ):Prop where
 p:Pln c
 f3:Few3 c
theorem cw_split {c:Circ}{given:List Asg}{t:List Nat}:CW c given t↔CW c [] t∧Ext given t :=
 ⟨fun h=>⟨⟨h.len,h.le,fun _ m=>(by cases m),h.cls⟩,h.ext⟩,fun ⟨h,e⟩=>⟨h.len,h.le,e,h.cls⟩⟩
def LeN (n:Nat) (v t:List Nat):Prop:=v.length=n∧∀ i,Blw (v.getD i 0) (t.getD i 0)
theorem LeN.refl (v:List Nat):LeN v.length v v:=⟨rfl,fun _=>.inr rfl⟩
theorem LeN.trans {n:Nat}{a b d:List Nat} (h:LeN n a b) (k:LeN n b d):LeN n a d:=⟨h.1,fun i=>(h.2 i).trans (k.2 i)⟩
theorem LeN.anti {n:Nat}{a b:List Nat} (h:LeN n a b) (k:LeN n b a):a=b:=blw_antisymm (h.1.trans k.1.symm) h.2 k.2
theorem LeN.ext {n:Nat}{a b:List Nat} (h:LeN n a b) {given:List Asg} (hv:∀ x∈given,x.value≤1) (e:Ext given a):Ext given b:=fun x m=>by
 have:=e x m
 have:=hv x m
 rcases h.2 x.net with q|q
 ·omega
 ·rw[← q];assumption
def cm (x y:Nat):Nat:=if x=y then x else 2
theorem cm_l (x y:Nat):Blw (cm x y) x:=by unfold cm;split;exact .inr rfl;exact .inl rfl
theorem cm_r (x y:Nat):Blw (cm x y) y:=by unfold cm;split;(rename_i e;exact .inr e);exact .inl rfl
theorem cm_mono {x y a b:Nat} (h:Blw x a) (k:Blw y b):Blw (cm x y) (cm a b):=by
 unfold cm
 split
 ·rename_i e
  subst e
  rcases h with h|h
  ·exact .inl h
  ·rcases k with k|k
   ·exact .inl k
   ·right;subst h;subst k;rw[if_pos rfl]
 ·exact .inl rfl
def joinedN (a b:List Nat):List Nat:=(List.range a.length).map fun i=>cm (a.getD i 0) (b.getD i 0)
theorem joinedN_len (a b:List Nat):(joinedN a b).length=a.length:=by unfold joinedN;simp
theorem joinedN_get {a b:List Nat} (h:a.length=b.length) (i:Nat):(joinedN a b).getD i 0=cm (a.getD i 0) (b.getD i 0):=by
 by_cases q:i<a.length
 ·unfold joinedN
  rw[List.getD,List.getElem?_map,List.getElem?_range q]
  rfl
 ·rw[getD_out (by rw[joinedN_len];omega),getD_out (by omega),getD_out (by omega)]
  rfl
def meetO:Option (List Nat)→Option (List Nat)→Option (List Nat)
 |none,b=>b
 |some a,none=>some a
 |some a,some b=>some (joinedN a b)
def leO (n:Nat) (o:Option (List Nat)) (t:List Nat):Prop:=∃ v,o=some v∧LeN n v t
def leOO (n:Nat) (o p:Option (List Nat)):Prop:=∀ w,p=some w→w.length=n∧leO n o w
theorem meet_le {n:Nat}{o1 o2 p1 p2:Option (List Nat)}{t:List Nat} (h1:leOO n o1 p1) (h2:leOO n o2 p2) (l1:∀ v,o1=some v→v.length=n) (l2:∀ v,o2=some v→v.length=n) (h:leO n (meetO p1 p2) t):leO n (meetO o1 o2) t:=by
 have jl:∀ a b:List Nat,a.length=n→b.length=n→LeN n (joinedN a b) a∧LeN n (joinedN a b) b:=fun a b ha hb =>
  ⟨⟨by rw[joinedN_len,ha],fun i=>by rw[joinedN_get (ha.trans hb.symm)];exact cm_l _ _⟩,⟨by rw[joinedN_len,ha],fun i=>by rw[joinedN_get (ha.trans hb.symm)];exact cm_r _ _⟩⟩
 obtain⟨v,e,hv⟩:=h
 cases p1 with
 |none =>
  have e:p2=some v:=e
  obtain⟨_,b,rfl,hb⟩:=h2 v e
  cases o1 with
  |none=>exact⟨b,rfl,hb.trans hv⟩
  |some a=>exact⟨_,rfl,((jl a b (l1 a rfl) hb.1).2.trans hb).trans hv⟩
 |some p1 =>
  obtain⟨hp1,a,rfl,ha⟩:=h1 p1 rfl
  cases p2 with
  |none =>
   cases e
   cases o2 with
   |none=>exact⟨a,rfl,ha.trans hv⟩
   |some b=>exact⟨_,rfl,((jl a b ha.1 (l2 b rfl)).1.trans ha).trans hv⟩
  |some p2 =>
   obtain⟨hp2,b,rfl,hb⟩:=h2 p2 rfl
   cases e
   refine⟨_,rfl,LeN.trans ⟨by rw[joinedN_len];exact ha.1,fun i=>?_⟩ hv⟩
   rw[joinedN_get (ha.1.trans hb.1.symm),joinedN_get (hp1.trans hp2.symm)]
   exact cm_mono (ha.2 i) (hb.2 i)
def knownP (v:List Nat) (i:Nat):List Asg:=((List.range i).filter fun k=>v.getD k 0 != 2).map fun k=>⟨k,v.getD k 0⟩
def knownA (v:List Nat):List Asg:=knownP v v.length
theorem mem_known {v:List Nat}{a:Asg}:a∈knownA v↔a.net<v.length∧v.getD a.net 0≠2∧a.value=v.getD a.net 0:=by
 unfold knownA knownP
 rw[List.mem_map]
 constructor
 ·rintro⟨k,m,rfl⟩
  rw[List.mem_filter,List.mem_range] at m
  exact⟨m.1,by simpa using m.2,rfl⟩
 ·rintro⟨h1,h2,h3⟩
  refine⟨a.net,?_,?_⟩
  ·rw[List.mem_filter,List.mem_range];exact⟨h1,by simpa using h2⟩
  ·cases a;simp only at h3 ⊢;rw[h3]
theorem known_ext {n:Nat}{v t:List Nat} (hl:v.length=n) (ht:t.length=n):Ext (knownA v) t↔LeN n v t:=by
 constructor
 ·refine fun h=>⟨hl,fun i=>?_⟩
  by_cases q:i<v.length
  ·by_cases e:v.getD i 0=2
   ·exact .inl e
   ·exact .inr (h ⟨i,v.getD i 0⟩ (mem_known.2 ⟨q,e,rfl⟩)).symm
  ·right;rw[getD_out (by omega),getD_out (by omega)]
 ·intro h a m
  obtain⟨h1,h2,h3⟩:=mem_known.1 m
  rw[h3]
  exact ((h.2 a.net).resolve_left h2).symm
theorem knownP_len (v:List Nat) (i:Nat):(knownP v i).length≤i:=by
 unfold knownP
 rw[List.length_map]
 refine Nat.le_trans (List.length_filter_le _ _) ?_
 simp
theorem known_len (v:List Nat):(knownA v).length≤v.length:=knownP_len v _
theorem known_grow {n:Nat}{v t:List Nat} (h:LeN n v t) (ht:t.length=n):(knownA v).length≤(knownA t).length∧((knownA t).length≤(knownA v).length→v=t):=by
 unfold knownA knownP
 rw[List.length_map,List.length_map,h.1,ht]
 have e:(List.range n).filter (fun k=>v.getD k 0 != 2)=((List.range n).filter fun k=>t.getD k 0 != 2).filter fun k=>v.getD k 0 != 2:=by
  rw[List.filter_filter]
  refine List.filter_congr fun k _=>?_
  rcases h.2 k with q|q
  ·rw[q];rfl
  ·rw[q];simp
 have s:((List.range n).filter fun k=>v.getD k 0 != 2).Sublist ((List.range n).filter fun k=>t.getD k 0 != 2):=by
  rw[e];exact List.filter_sublist
 refine⟨s.length_le,fun q=>?_⟩
 have e2:=s.eq_of_length_le q
 refine h.anti ⟨ht,fun i=>?_⟩
 by_cases hi:i<n
 ·rcases h.2 i with q|q
  ·left
   have m:i ∉ (List.range n).filter (fun k=>v.getD k 0 != 2):=by
    rw[List.mem_filter,q];simp
   rw[e2,List.mem_filter,List.mem_range] at m
   simpa[hi] using m
  ·exact .inr q.symm
 ·right;rw[getD_out (by omega),getD_out (by rw[h.1];omega)]
theorem list_vc {v:List Nat} (hl:v.length≤2 ^ 40) {K:List Asg→Prop} (h:K (knownA v)):learns_list_wp v K:=by
 unfold learns_list_wp
 refine joinLoop (fun s=>s.2≤v.length∧s.1=knownP v s.2) (fun s=>v.length-s.2) (fun a=>a=knownA v) ?_ ⟨Nat.zero_le _,rfl⟩ (fun a e=>by rw[e];exact h)
 rintro k ⟨o,i⟩ nx ⟨hi,hI⟩ hnx hk
 dsimp only at hi hI
 refine⟨fun q=>?_,fun q=>?_⟩
 ·have q:=lt_t.1 q
  (try dsimp only at q)
  have hb:o.length≤2 ^ 40:=by rw[hI];have:=knownP_len v i;omega
  refine joinI ⟨_,getD_some q,fun e=>?_,fun e=>?_⟩
  ·have e:=ne_t.1 e
   refine⟨by simp only[List.length_singleton];omega,by omega,hnx _ ⟨q,?_⟩ (by dsimp only;omega)⟩
   dsimp only
   rw[hI]
   unfold knownP
   rw[filt_step,if_pos (by simpa using e),List.map_append]
   rfl
  ·have e:=ne_f.1 e
   refine⟨by omega,hnx _ ⟨q,?_⟩ (by dsimp only;omega)⟩
   dsimp only
   rw[hI]
   unfold knownP
   rw[filt_step,if_neg (by rw[e];simp),List.append_nil]
 ·have q:=lt_f.1 q
  (try dsimp only at q)
  have:i=v.length:=by omega
  subst this
  exact hk o hI
structure Lst (P:List Nat→Prop) (given:List Asg) (v:List Nat):Prop where
 mem:P v
 ext:Ext given v
 low:∀ t,P t→Ext given t→LeN v.length v t
theorem lst_close {c:Circ}{given:List Asg}{v:List Nat} (C:CloseOk c given v):Lst (CW c []) given v :=
 ⟨(cw_split.1 C.cw).1,C.giv,fun t h e=>⟨rfl,C.snd t (cw_split.2 ⟨h,e⟩)⟩⟩
theorem Lst.eq {P:List Nat→Prop}{given:List Asg}{v w:List Nat} (hl:v.length=w.length) (h:Lst P given v) (k:Lst P given w):v=w :=
 (h.low w k.mem k.ext).anti (by have:=k.low v h.mem h.ext;rw[← hl] at this;exact this)
open Classical in
noncomputable def lstO (P:List Nat→Prop) (given:List Asg):Option (List Nat):=if h:∃ v,Lst P given v then some (Classical.choose h) else none
theorem lstO_some {P:List Nat→Prop}{given:List Asg}{v:List Nat} (h:lstO P given=some v):Lst P given v:=by
 unfold lstO at h
 split at h
 ·rename_i e
  cases h
  exact Classical.choose_spec e
 ·cases h
theorem lstO_ok {P:List Nat→Prop}{n:Nat} (hP:∀ t,P t→t.length=n) {given:List Asg}{v:List Nat} (h:Lst P given v):lstO P given=some v:=by
 unfold lstO
 rw[dif_pos ⟨v,h⟩]
 have k:=Classical.choose_spec (⟨v,h⟩:∃ v,Lst P given v)
 exact congrArg some (k.eq ((hP _ k.mem).trans (hP _ h.mem).symm) h)
theorem lstO_none {P:List Nat→Prop}{given:List Asg} (h:∀ t,P t→¬ Ext given t):lstO P given=none:=by
 unfold lstO
 rw[dif_neg (fun ⟨v,k⟩=>h v k.mem k.ext)]
def satP (c:Circ):Nat→(List Nat→Prop)
 |0=>fun t=>CW c [] t
 |d+1=>fun t=>CW c [] t∧∀ n,n<c.nodes.length→t.getD n 0=2→leO c.nodes.length (meetO (lstO (satP c d) (knownA t++[⟨n,0⟩])) (lstO (satP c d) (knownA t++[⟨n,1⟩]))) t
noncomputable def satO (c:Circ) (d:Nat) (given:List Asg):Option (List Nat):=lstO (satP c d) given
theorem satP_cw {c:Circ}:∀ {d:Nat}{t:List Nat},satP c d t→CW c [] t
 |0,_,h=>h
 |_+1,_,h=>h.1
theorem satP_len {c:Circ}{d:Nat} (t:List Nat) (h:satP c d t):t.length=c.nodes.length:=(satP_cw h).len
def SatD (c:Circ) (d:Nat):Prop:=∀ given,GivOk c given→(∃ v,Lst (satP c d) given v)∨∀ t,satP c d t→¬ Ext given t
theorem giv_known {c:Circ}{v:List Nat} (hl:v.length=c.nodes.length) (hc:c.nodes.length≤1024) (le:∀ i,v.getD i 0≤2):GivOk c (knownA v):=by
 refine⟨fun a m=>?_,?_⟩
 ·obtain⟨h1,h2,h3⟩:=mem_known.1 m
  have:=le a.net
  exact⟨by omega,by omega⟩
 ·have:=known_len v
  omega
theorem GivOk.snoc {c:Circ}{l:List Asg} (h:GivOk c l) (hl:l.length<2 ^ 50) {a:Asg} (h1:a.net<c.nodes.length) (h2:a.value≤1):GivOk c (l++[a]):=by
 refine⟨fun b m=>?_,?_⟩
 ·rcases List.mem_append.1 m with m|m
  ·exact h.ok b m
  ·rw[List.mem_singleton.1 m];exact⟨h1,h2⟩
 ·rw[List.length_append,List.length_singleton];omega
theorem ext_snoc {l:List Asg}{a:Asg}{t:List Nat}:Ext (l++[a]) t↔Ext l t∧t.getD a.net 0=a.value :=
 ⟨fun h=>⟨fun b m=>h b (List.mem_append_left _ m),h a (List.mem_append_right _ (List.mem_singleton.2 rfl))⟩,fun ⟨h,k⟩ b m=>by
  rcases List.mem_append.1 m with m|m
  ·exact h b m
  ·rw[List.mem_singleton.1 m];exact k⟩
theorem satO_le {P Q:List Nat→Prop}{n:Nat} (lP:∀ t,P t→t.length=n) (hPQ:∀ t,Q t→P t) {g g':List Asg} (hg:∀ t,Q t→Ext g' t→Ext g t) (D:(∃ v,Lst P g v)∨∀ t,P t→¬ Ext g t):leOO n (lstO P g) (lstO Q g'):=by
 intro w e
 have L:=lstO_some e
 have hw:=hPQ w L.mem
 refine⟨lP w hw,?_⟩
 rcases D with⟨v,V⟩|D
 ·refine⟨v,lstO_ok lP V,?_⟩
  have:=V.low w hw (hg w L.mem L.ext)
  rw[lP v V.mem] at this
  exact this
 ·exact absurd (hg w L.mem L.ext) (D w hw)
theorem satP_down {c:Circ} (hc:c.nodes.length≤1024):∀ {d:Nat},(∀ e,e<d→SatD c e)→∀ {t:List Nat},satP c (d+1) t→satP c d t
 |0,_,_,h=>h.1
 |d+1,D,t,h=>by
  refine⟨h.1,fun n hn h2=>?_⟩
  have C:=satP_cw h
  have G:=giv_known C.len hc C.le
  have gl:(knownA t).length<2 ^ 50:=by have:=known_len t;have:=C.len;omega
  have IH:∀ {t:List Nat},satP c (d+1) t→satP c d t:=satP_down hc (d:=d) fun e he=>D e (by omega)
  exact meet_le (satO_le satP_len (fun t=>IH) (fun _ _ e=>e) (D d (by omega) _ (G.snoc gl hn (Nat.zero_le _)))) (satO_le satP_len (fun t=>IH) (fun _ _ e=>e) (D d (by omega) _ (G.snoc gl hn (Nat.le_refl _))))
   (fun v e=>satP_len v (lstO_some e).mem) (fun v e=>satP_len v (lstO_some e).mem) (h.2 n hn h2)
theorem sat_meet {c:Circ} (hc:c.nodes.length≤1024) {d:Nat} (D:∀ e,e≤d→SatD c e) {v t:List Nat} (T:satP c (d+1) t) (hv:LeN c.nodes.length v t) (le:∀ i,v.getD i 0≤2) {n:Nat} (hn:n<c.nodes.length) :
  leO c.nodes.length (meetO (satO c d (knownA v++[⟨n,0⟩])) (satO c d (knownA v++[⟨n,1⟩]))) t:=by
 have C:=satP_cw T
 have G:=giv_known hv.1 hc le
 have gl:(knownA v).length<2 ^ 50:=by have:=known_len v;have:=hv.1;omega
 have G0:GivOk c (knownA v++[⟨n,0⟩]):=G.snoc gl hn (Nat.zero_le _)
 have G1:GivOk c (knownA v++[⟨n,1⟩]):=G.snoc gl hn (Nat.le_refl _)
 have E:=(known_ext hv.1 C.len).2 hv
 have lenO:∀ {g:List Asg} (w:List Nat),satO c d g=some w→w.length=c.nodes.length:=fun w e=>satP_len w (lstO_some e).mem
 have Td:satP c d t:=satP_down hc (fun e he=>D e (by omega)) T
 have mono:∀ x,leOO c.nodes.length (satO c d (knownA v++[⟨n,x⟩])) (satO c d (knownA t++[⟨n,x⟩]))∨¬ x≤1:=fun x=>by
  by_cases hx:x≤1
  ·left
   refine satO_le satP_len (fun _ h=>h) (fun w W e=>?_) (D d (Nat.le_refl _) _ (G.snoc gl hn hx))
   obtain⟨e1,e2⟩:=ext_snoc.1 e
   exact ext_snoc.2 ⟨(known_ext hv.1 (satP_len w W)).2 (hv.trans ((known_ext C.len (satP_len w W)).1 e1)),e2⟩
  ·exact .inr hx
 have side:∀ x,x≤1→t.getD n 0=x→leO c.nodes.length (satO c d (knownA v++[⟨n,x⟩])) t:=fun x hx e=>by
  rcases D d (Nat.le_refl _) _ (G.snoc (a:=⟨n,x⟩) gl hn hx) with⟨w,W⟩|N
  ·refine⟨w,lstO_ok satP_len W,?_⟩
   have:=W.low t Td (ext_snoc.2 ⟨E,e⟩)
   rw[satP_len w W.mem] at this
   exact this
  ·exact absurd (ext_snoc.2 ⟨E,e⟩) (N t Td)
 have tot:∀ (o:Option (List Nat)),leOO c.nodes.length o none:=fun o w e=>by cases e
 have self:t.length=c.nodes.length:=C.len
 have own:∀ {o:Option (List Nat)},leO c.nodes.length o t→leOO c.nodes.length o (some t):=fun h w e=>by cases e;exact⟨self,h⟩
 have rt:LeN c.nodes.length t t:=⟨self,fun _=>.inr rfl⟩
 by_cases h2:t.getD n 0=2
 ·exact meet_le ((mono 0).resolve_right (by omega)) ((mono 1).resolve_right (by omega)) lenO lenO (T.2 n hn h2)
 ·have:=C.le n
  by_cases h0:t.getD n 0=0
  ·exact meet_le (own (side 0 (by omega) h0)) (tot _) lenO lenO (p1:=some t) (p2:=none) ⟨t,rfl,rt⟩
  ·exact meet_le (tot _) (own (side 1 (by omega) (by omega))) lenO lenO (p1:=none) (p2:=some t) ⟨t,rfl,rt⟩
end Go.Proofs.YteanlacbmiiloaaGreatDoor
