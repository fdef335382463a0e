/-
  P6, P7, Carg, Carg7, Case, W3, W4, Uf, U1, P8, U2, U3, U4, Gat, Co1: parts of the proof.
-/
import Derived.Test.YtobphhjcadjfjaaDoorSg48
namespace Go.Proofs.YtobphhjcadjfjaaDoor
open Go.Abs
set_option maxRecDepth 100000
def gP (c:Circ) (i x:Nat):List Ln:=(c.nodes.zipIdx.take i).flatMap fun p=>bg x p.2 p.1.ins
theorem ri (x i:Nat) (l:List Nat) (a:Nat):bg x i (l++[a])=bg x i l++(if a=x then [⟨i,l.length⟩] else []):=by
 unfold bg
 rw[List.zipIdx_append,List.filter_append,List.map_append]
 congr 1
 by_cases c:a=x
 ·simp[c]
 ·simp[c]
theorem nA {c:Circ}{i x:Nat}{y:Node} (hy:c.nodes[i]?=some y):gP c (i+1) x=gP c i x++bg x i y.ins:=by
 have h:c.nodes.zipIdx[i]?=some (y,i):=by rw[List.getElem?_zipIdx,hy];simp
 unfold gP
 obtain⟨h1,h2⟩:=List.getElem?_eq_some_iff.1 h
 rw[List.take_succ_eq_append_getElem h1,h2,List.flatMap_append]
 simp
theorem na (x i:Nat) (l:List Nat):(bg x i l).length<=l.length:=by
 unfold bg
 rw[List.length_map]
 refine Nat.le_trans (List.length_filter_le _ _) ?_
 simp
structure FanPre (c:Circ):Prop where
 len:c.nodes.length<=16
 ins:∀ (i:Nat) (x:Node),c.nodes[i]?=some x->(∀ k∈x.ins,k<c.nodes.length)/\x.ins.length<=16
theorem pM {c:Circ} (g:FanPre c) (x:Nat):∀ i,i<=c.nodes.length->(gP c i x).length<=i*16
 |0,_=>by simp[gP]
 |i+1,h=>by
  obtain⟨y,hy⟩:=aI (l:=c.nodes) (i:=i) h
  rw[nA hy,List.length_append]
  have:=pM g x i (by omega)
  have:=na x i y.ins
  have:=(g.ins i y hy).2
  omega
def dM (c:Circ) (i t:Nat) (ins:List Nat):List (List Ln):=(List.range c.nodes.length).map fun x=>gP c i x++bg x i (ins.take t)
theorem lx {c:Circ}{i t x:Nat}{ins:List Nat} (hx:x<c.nodes.length):(dM c i t ins)[x]?=some (gP c i x++bg x i (ins.take t)):=by
 unfold dM
 rw[List.getElem?_map,List.getElem?_range hx]
 rfl
theorem sQ {c:Circ}{i t y:Nat}{ins:List Nat} (hy:ins[t]?=some y):(dM c i t ins).set y (gP c i y++bg y i (ins.take t)++[⟨i,t⟩])=dM c i (t+1) ins:=by
 have ht:=ag hy
 obtain⟨h1,h2⟩:=List.getElem?_eq_some_iff.1 hy
 have hs:∀ x,bg x i (ins.take (t+1))=bg x i (ins.take t)++(if y=x then [⟨i,t⟩] else []):=fun x=>by
  rw[List.take_succ_eq_append_getElem h1,h2,ri,List.length_take,Nat.min_eq_left (Nat.le_of_lt ht)]
 apply List.ext_getElem?
 intro x
 rw[List.getElem?_set]
 have hl:(dM c i t ins).length=c.nodes.length:=by unfold dM;simp
 by_cases c1:x<c.nodes.length
 ·rw[lx c1,lx c1,hs x]
  by_cases e:y=x
  ·subst e
   rw[if_pos rfl,if_pos (by omega),if_pos rfl,List.append_assoc]
  ·rw[if_neg e,if_neg e,List.append_nil]
 ·have hn:∀ k,(dM c i k ins)[x]?=none:=fun k=>by
   refine List.getElem?_eq_none ?_
   unfold dM;simp;omega
  rw[hn,hn]
  by_cases e:y=x
  ·rw[if_pos e,if_neg (by omega)]
  ·rw[if_neg e]
theorem pU {c:Circ}{K:List (List Ln)->Prop} (g:FanPre c) (h:K (kD c)):eS c K:=by
 have hlen:=g.len
 unfold eS
 refine⟨by omega,by omega,?_⟩
 refine aO (fun s=>s.2<=c.nodes.length/\s.1=dM c s.2 0 []) (fun s=>c.nodes.length-s.2) (fun a=>a=kD c) ?_ ?_ ?_
 ·rintro k ⟨R,i⟩ nx ⟨hi,hR⟩ hnx hk
  dsimp only at hi hR
  subst hR
  refine⟨fun q=>?_,fun q=>?_⟩
  ·have q:=ba.1 q
   try dsimp only at q
   obtain⟨y,hy⟩:=aI q
   obtain⟨g1,g2⟩:=g.ins i y hy
   refine ir ⟨y,hy,?_⟩
   refine bh (fun s=>s.2<=y.ins.length/\s.1=dM c i s.2 y.ins) (fun s=>y.ins.length-s.2) ?_ ⟨Nat.zero_le _,by unfold dM;simp⟩
   rintro⟨R1,t⟩ nx1 ⟨ht,hR⟩ hnx1
   dsimp only at ht hR
   subst hR
   refine⟨fun q1=>?_,fun q1=>?_⟩
   ·have q1:=ba.1 q1
    try dsimp only at q1
    obtain⟨z,hz⟩:=aI q1
    have hzn:=g1 z (List.mem_of_getElem? hz)
    have hb:=pM g z i hi
    have hb2:=na z i (y.ins.take t)
    have hb3:(y.ins.take t).length<=16:=by rw[List.length_take];omega
    refine ir ⟨z,hz,fun e=>absurd (ba.1 e) (Nat.not_lt_zero _),fun _=>⟨fun _=>?_,fun e=>?_⟩⟩
    ·refine⟨hzn,_,lx hzn,by simp only[List.length_append,List.length_singleton];omega,hzn,by omega,?_⟩
     rw[sQ hz]
     exact hnx1 (dM c i (t+1) y.ins,t+1) ⟨q1,rfl⟩ (by dsimp only;omega)
    ·have e2:ltN z c.nodes.length=true:=ba.2 hzn
     rw[e2] at e
     cases e
   ·have q1:=bO.1 q1
    try dsimp only at q1
    refine⟨by omega,hnx (dM c i t y.ins,i+1) ⟨q,?_⟩ (by dsimp only;omega)⟩
    unfold dM
    refine List.map_congr_left fun x _=>?_
    rw[List.take_of_length_le q1,nA hy]
    simp[bg]
  ·have q:=bO.1 q
   try dsimp only at q
   have:i=c.nodes.length:=by omega
   subst this
   refine hk _ ?_
   unfold dM kD
   refine List.map_congr_left fun x _=>?_
   unfold gP
   rw[List.take_of_length_le (by simp)]
   simp[bg]
 ·refine⟨Nat.zero_le _,?_⟩
  unfold dM
  apply List.ext_getElem?
  intro x
  rw[List.getElem?_replicate,List.getElem?_map]
  by_cases q:x<c.nodes.length
  ·rw[if_pos q,List.getElem?_range q]
   simp[gP,bg]
  ·rw[if_neg q,List.getElem?_eq_none (by simp;omega)]
   rfl
 ·rintro a rfl
  have hl:(kD c).length=c.nodes.length:=by unfold kD;simp
  refine aO (fun s=>s.2<=c.nodes.length/\s.1=kD c) (fun s=>c.nodes.length-s.2) (fun a=>a=kD c) ?_ ⟨Nat.zero_le _,rfl⟩ ?_
  ·rintro k ⟨R,i⟩ nx ⟨hi,hR⟩ hnx hk
   dsimp only at hi hR
   subst hR
   refine⟨fun q=>?_,fun _=>hk _ rfl⟩
   have q:=ba.1 q
   try dsimp only at q
   obtain⟨y,hy⟩:=aI (l:=kD c) (i:=i) (by omega)
   refine⟨q,y,hy,q,by omega,hnx _ ⟨q,?_⟩ (by dsimp only;omega)⟩
   obtain⟨h1,rfl⟩:=List.getElem?_eq_some_iff.1 hy
   exact List.set_getElem_self h1
  ·rintro a rfl
   exact⟨hl.symm,h⟩
theorem yP {c:Circ} (g:FanPre c):FanOk c:=by
 refine FnV.nZ (enc:=aw 1 (aw 2 bK)) (ij fun r=>ah.cons (ij fun l=>sM l) ah.nil) fun h hB=>?_
 exact nJ (K:=fun r=>r=kD c) (pU g rfl) hB
theorem ui:([0,1,2,3,4,5,6,7,8,9,10,11,12,13,14,15].all fun i=>isTrue (mZ Tryd.prog [] (mC Tryd.prog) 60 89 #[.string (ic i)] (dI vars)))=true:=by kernel_rfl
theorem Bv {i:Nat} (hi:i<16):zm (ic i):=by
 have hm:i∈[0,1,2,3,4,5,6,7,8,9,10,11,12,13,14,15]:=by
  have:i=0\/i=1\/i=2\/i=3\/i=4\/i=5\/i=6\/i=7\/i=8\/i=9\/i=10\/i=11\/i=12\/i=13\/i=14\/i=15:=by omega
  simpa using this
 obtain⟨h',e⟩:=oT (List.all_eq_true.1 ui i hm)
 have c:=(gG hM hP (fun f vs h v e=>iQ f vs h v e) 60 _ _ _ _ _ e).1
 exact⟨PureV.oe rfl,fun h b=>c.lift (by kernel_rfl) rfl (kS (vg b) (nR b))⟩
theorem vY:∀ i,i<16->∀ j,j<16->ic i=ic j->i=j:=by decide +kernel
theorem wA {l:List ByteArray}{x:ByteArray} (h:x ∉ l):bS (l.map fun s=>(s,true)) x=none:=by
 induction l with
 |nil=>rfl
 |cons a l ih =>
  simp only[List.mem_cons,not_or] at h
  rw[List.map_cons,bS,if_neg h.1]
  exact ih h.2
theorem yw {l:List ByteArray}{x:ByteArray} (h:x ∉ l):gz (l.map fun s=>(s,true)) x true=(l++[x]).map fun s=>(s,true):=by
 induction l with
 |nil=>rfl
 |cons a l ih =>
  simp only[List.mem_cons,not_or] at h
  rw[List.map_cons,gz,if_neg h.1,ih h.2]
  rfl
theorem lU {c:Circ}{K:Nat->Prop} (h1:∀ s∈c.names,zm s) (h2:c.names.Nodup) (h3:c.names.length<2 ^ 60) (h:K 0):fC c K:=by
 unfold fC
 refine aO (fun s=>s.2<=c.names.length/\s.1=(c.names.take s.2).map fun s=>(s,true)) (fun s=>c.names.length-s.2) (fun _=>True) ?_ ⟨Nat.zero_le _,by simp⟩ (fun _ _=>h)
 rintro k ⟨m,i⟩ nx ⟨hi,hR⟩ hnx hk
 dsimp only at hi hR
 subst hR
 refine⟨fun q=>?_,fun _=>hk () trivial⟩
 have q:=ba.1 q
 try dsimp only at q
 obtain⟨x,hx⟩:=aI q
 obtain⟨l1,l2⟩:=List.getElem?_eq_some_iff.1 hx
 have hnot:x ∉ c.names.take i:=fun mm=>by
  obtain⟨j,hj,e⟩:=List.getElem_of_mem mm
  rw[List.length_take] at hj
  rw[List.getElem_take] at e
  exact List.pairwise_iff_getElem.1 h2 j i (by omega) l1 (by omega) (e.trans l2.symm)
 refine⟨x,hx,ir ⟨h1 x (List.mem_of_getElem? hx),(fun e=>by cases e),fun _=>?_⟩⟩
 rw[wA hnot]
 refine⟨(fun e=>by cases e),fun _=>⟨by omega,hnx _ ⟨q,?_⟩ (by dsimp only;omega)⟩⟩
 dsimp only
 rw[yw hnot,List.take_succ_eq_append_getElem l1,l2]
theorem xk {c:Circ}{n:Nat} (hn:n<=16) (hc:c.names=(List.range n).map ic):NamesOk c:=by
 refine FnV.nZ (enc:=i64) (PureV.flat rfl) fun h hB=>?_
 refine jG (K:=fun r=>r=0) (lU ?_ ?_ ?_ rfl) hB
 ·intro s m
  rw[hc] at m
  obtain⟨i,hi,rfl⟩:=List.mem_map.1 m
  exact Bv (by have:=List.mem_range.1 hi;omega)
 ·rw[hc]
  unfold List.Nodup
  rw[List.pairwise_map]
  refine List.Pairwise.imp_of_mem ?_ (List.nodup_range (n:=n))
  intro a b ha hb hne e
  exact hne (vY a (by have:=List.mem_range.1 ha;omega) b (by have:=List.mem_range.1 hb;omega) e)
 ·rw[hc];simp;omega
theorem gN {first:Nat}{d:Nat->Nat}{ns:List Node}:∀ i,(kB first d i ns).length=ns.length
 |0=>rfl
 |i+1=>by rw[kB,List.length_set,gN i]
theorem lH {first:Nat}{d:Nat->Nat}{ns:List Node}{j:Nat}:∀ {i},first+i<=j->(kB first d i ns)[j]?=ns[j]?
 |0,_=>rfl
 |i+1,h=>by
  rw[kB,List.getElem?_set_ne (by omega)]
  exact lH (by omega)
theorem mD (x:CData):0<(cp x).length:=by
 rw[gL];omega
theorem Bo {α:Type}{a:α}{first:(α->Prop)->Prop}{rest:α->Prop} (h1:rest a->first rest) (h2:rest a):al first rest:=h1 h2
structure CB (x:CData):Prop where
 inp:x.inp<256
 dffs:x.dffs<256
 data0:x.data0<256
 data1:x.data1<256
 port0:x.port0<256
 port1:x.port1<256
 port2:x.port2<256
 port3:x.port3<256
 gates:∀ g∈x.gates,GOk g
 outs:∀ o∈x.outs,o<256
theorem pC {n:Nat} (hn:n<=16) {rest:List ByteArray->Prop} (h:rest ((List.range n).map ic)) :
  al (α:=(List ByteArray)) (fun k=>aP (S:=((List ByteArray)×Nat)) (fun (v,i) nx=>((ltN i n)=true->eV i (fun r=>(v.length+([r]:(List ByteArray)).length)*16<=2 ^ 47/\i+1<2 ^ 63/\nx ((v++([r]:(List ByteArray))),(i+1))))/\((ltN i n)=false->k v)) (([]:List ByteArray),0)) rest:=by
 refine aO (fun s=>s.2<=n/\s.1=(List.range s.2).map ic) (fun s=>n-s.2) (fun a=>a=(List.range n).map ic) ?_ ⟨Nat.zero_le _,rfl⟩ (fun a e=>by rw[e];exact h)
 rintro k ⟨l,i⟩ nx ⟨hi,hl⟩ hnx hk
 dsimp only at hi hl
 subst hl
 refine⟨fun q=>?_,fun q=>?_⟩
 ·have q:=ba.1 q
  try dsimp only at q
  refine⟨by omega,by simp only[List.length_map,List.length_range,List.length_singleton];omega,by omega,hnx _ ⟨by dsimp only;omega,?_⟩ (by dsimp only;omega)⟩
  dsimp only
  rw[List.range_succ,List.map_append];rfl
 ·have q:=bO.1 q
  try dsimp only at q
  have:i=n:=by omega
  subst this
  exact hk _ rfl
theorem qw {n:Nat} (hpos:0<n) {outs:List Nat} (ho:∀ o∈outs,o<256) {rest:List Nat->Prop} (h:rest ((outs.take 3).map (· % n))) :
  al (α:=(List Nat)) (fun k=>aP (S:=((List Nat)×Nat)) (fun (v,i) nx=>al (α:=Bool) (fun k2=>((ltN i outs.length)=true->k2 (ltN i 3))/\((ltN i outs.length)=false->k2 false)) (fun w=>(w=true->∃ x,outs[i]?=some x/\x<256/\0<n/\(v.length+([(x%n)]:(List Nat)).length)*8<=2 ^ 47/\i+1<2 ^ 63/\nx ((v++([(x%n)]:(List Nat))),(i+1)))/\(w=false->k v))) (([]:List Nat),0)) rest:=by
 refine aO (fun s=>s.2<=min outs.length 3/\s.1=(outs.take s.2).map (· % n)) (fun s=>min outs.length 3-s.2) (fun a=>a=(outs.take 3).map (· % n)) ?_ ⟨Nat.zero_le _,by simp⟩ (fun a e=>by rw[e];exact h)
 rintro k ⟨l,i⟩ nx ⟨hi,hl⟩ hnx hk
 dsimp only at hi hl
 subst hl
 have hi3:i<=3:=Nat.le_trans hi (Nat.min_le_right _ _)
 have hil:i<=outs.length:=Nat.le_trans hi (Nat.min_le_left _ _)
 have hlen:((outs.take i).map (· % n)).length=i:=by rw[List.length_map,List.length_take];omega
 have stop:¬ (i<outs.length/\i<3)->k ((outs.take i).map (· % n)):=fun q=>by
  refine hk _ ?_
  by_cases c:i=3
  ·rw[c]
  ·rw[List.take_of_length_le (by omega),List.take_of_length_le (by omega)]
 refine ir ⟨fun q=>⟨fun q2=>?_,fun q2=>stop fun e=>absurd e.2 (by have:=bO.1 q2;omega)⟩,fun q=>⟨(fun e=>by cases e),fun _=>stop fun e=>absurd e.1 (by have:=bO.1 q;(try dsimp only at this);omega)⟩⟩
 have q:=ba.1 q
 have q2:=ba.1 q2
 try dsimp only at q q2
 obtain⟨o,hoo⟩:=aI q
 obtain⟨l1,l2⟩:=List.getElem?_eq_some_iff.1 hoo
 refine⟨o,hoo,ho _ (List.mem_of_getElem? hoo),hpos,by rw[hlen];simp only[List.length_singleton];omega,by omega,hnx _ ⟨by dsimp only;omega,?_⟩ (by dsimp only;omega)⟩
 dsimp only
 rw[List.take_succ_eq_append_getElem l1,l2,List.map_append];rfl
theorem ug {x:CData}{K:Circ->Prop} (hx:CB x) (h:K (fh x)):fb x K:=by
 have h4:=Nat.mod_lt x.inp (show 0<4 by decide)
 have h3:=Nat.mod_lt x.dffs (show 0<3 by decide)
 have hpos:=mD x
 have hle:=ve x
 have hbase:(eo x.inp x.dffs x.mem).length<=8:=by rw[eG];split <;> omega
 have hbase1:0<(eo x.inp x.dffs x.mem).length:=by rw[eG];omega
 unfold fb
 refine aO (fun s=>s.2<=x.inp%4+1/\s.1=List.replicate s.2 eN) (fun s=>x.inp%4+1-s.2) (fun a=>a=List.replicate (x.inp%4+1) eN) ?_ ⟨Nat.zero_le _,rfl⟩ ?_
 ·rintro k ⟨l,i⟩ nx ⟨hi,hl⟩ hnx hk
  dsimp only at hi hl
  subst hl
  refine⟨by decide,by omega,fun q=>?_,fun q=>?_⟩
  ·have q:=je.1 q
   try dsimp only at q
   refine⟨by simp only[List.length_replicate,List.length_singleton];omega,by omega,hnx _ ⟨by dsimp only;omega,?_⟩ (by dsimp only;omega)⟩
   dsimp only
   rw[List.replicate_succ'];rfl
  ·have q:=nf.1 q
   try dsimp only at q
   have:i=x.inp%4+1:=by omega
   subst this
   exact hk _ rfl
 rintro a rfl
 refine⟨by decide,by omega,?_⟩
 refine aO (fun s=>s.2<=x.dffs%3/\s.1=List.replicate (x.inp%4+1) eN++List.replicate s.2 (lY 0)) (fun s=>x.dffs%3-s.2) (fun a=>a=List.replicate (x.inp%4+1) eN++List.replicate (x.dffs%3) (lY 0)) ?_ ⟨Nat.zero_le _,by simp⟩ ?_
 ·rintro k ⟨l,i⟩ nx ⟨hi,hl⟩ hnx hk
  dsimp only at hi hl
  subst hl
  refine⟨fun q=>?_,fun q=>?_⟩
  ·have q:=ba.1 q
   try dsimp only at q
   refine⟨by simp only[List.length_append,List.length_replicate,List.length_singleton];omega,by omega,hnx _ ⟨by dsimp only;omega,?_⟩ (by dsimp only;omega)⟩
   dsimp only
   rw[List.replicate_succ' (n:=i),<- List.append_assoc];rfl
  ·have q:=bO.1 q
   try dsimp only at q
   have:i=x.dffs%3:=by omega
   subst this
   exact hk _ rfl
 rintro a rfl
 refine Bo (a:=eo x.inp x.dffs x.mem) (fun F=>⟨fun q=>?_,fun q=>?_⟩) ?_
 ·refine⟨by simp only[List.length_append,List.length_replicate,List.length_cons,List.length_nil];omega,?_⟩
  rw[show eo x.inp x.dffs x.mem=List.replicate (x.inp%4+1) eN++List.replicate (x.dffs%3) (lY 0)++[vD 0,vD 1] by unfold eo;rw[q];rfl] at F
  exact F
 ·rw[show eo x.inp x.dffs x.mem=List.replicate (x.inp%4+1) eN++List.replicate (x.dffs%3) (lY 0) by unfold eo;rw[q];simp] at F
  exact F
 refine aO (fun s=>s.2<=min x.gates.length 8/\s.1=dr x.bus x.gates (eo x.inp x.dffs x.mem) s.2) (fun s=>min x.gates.length 8-s.2) (fun a=>a=cp x) ?_ ⟨Nat.zero_le _,rfl⟩ ?_
 ·rintro k ⟨l,i⟩ nx ⟨hi,hl⟩ hnx hk
  dsimp only at hi hl
  subst hl
  have hgl:i<=x.gates.length:=Nat.le_trans hi (Nat.min_le_left _ _)
  have hN:=dP x.bus x.gates (eo x.inp x.dffs x.mem) i hgl
  have hi8:i<=8:=Nat.le_trans hi (Nat.min_le_right _ _)
  have stop:¬ (i<x.gates.length/\i<8)->k (dr x.bus x.gates (eo x.inp x.dffs x.mem) i):=fun q=>by
   have:i=min x.gates.length 8:=by omega
   exact hk _ (by rw[this];rfl)
  refine ir ⟨fun q=>⟨fun q2=>?_,fun q2=>stop fun e=>absurd e.2 (by have:=bO.1 q2;omega)⟩,fun q=>⟨(fun e=>by cases e),fun _=>stop fun e=>absurd e.1 (by have:=bO.1 q;(try dsimp only at this);omega)⟩⟩
  have q:=ba.1 q
  have q2:=ba.1 q2
  try dsimp only at q q2
  obtain⟨gd,hg⟩:=aI q
  refine⟨gd,hg,hx.gates _ (List.mem_of_getElem? hg),by omega,by omega,by simp only[List.length_singleton];omega,by omega,hnx _ ⟨by dsimp only;omega,?_⟩ (by dsimp only;omega)⟩
  dsimp only
  rw[kf hg]
 rintro a rfl
 have hfirst:(List.replicate (x.inp%4+1) eN).length=x.inp%4+1:=List.length_replicate
 refine aO (fun s=>s.2<=x.dffs%3/\s.1=kB (x.inp%4+1) (kN x (cp x).length) s.2 (cp x)) (fun s=>x.dffs%3-s.2) (fun a=>a=kB (x.inp%4+1) (kN x (cp x).length) (x.dffs%3) (cp x)) ?_ ⟨Nat.zero_le _,rfl⟩ ?_
 ·rintro k ⟨l,i⟩ nx ⟨hi,hl⟩ hnx hk
  dsimp only at hi hl
  subst hl
  refine⟨fun q=>?_,fun q=>?_⟩
  ·have q:=ba.1 q
   try dsimp only at q
   have hget:(kB (x.inp%4+1) (kN x (cp x).length) i (cp x))[(List.replicate (x.inp%4+1) eN).length+i]?=some (lY 0):=by
    rw[hfirst,lH (Nat.le_refl _)]
    exact sk q
   have step:∀ d,d=kN x (cp x).length i->nx ((kB (x.inp%4+1) (kN x (cp x).length) i (cp x)).set ((List.replicate (x.inp%4+1) eN).length+i) { lY 0 with ins:=[d] },i+1):=fun d e=>by
    refine hnx _ ⟨by dsimp only;omega,?_⟩ (by dsimp only;omega)
    dsimp only
    rw[hfirst,e]
    rfl
   refine⟨by omega,by omega,fun e=>⟨hx.data0,hpos,_,hget,by omega,step _ ?_⟩,fun e=>⟨hx.data1,hpos,_,hget,by omega,step _ ?_⟩⟩
   ·unfold kN;rw[if_pos e]
   ·unfold kN;rw[if_neg (by omega)]
  ·have q:=bO.1 q
   try dsimp only at q
   have:i=x.dffs%3:=by omega
   subst this
   exact hk _ rfl
 rintro a rfl
 have hol:((x.outs.take 3).map (· % (cp x).length)).length<=3:=by rw[List.length_map,List.length_take];omega
 unfold fh at h
 refine⟨fun q=>⟨hx.port0,hpos,hx.port1,hpos,hx.port2,hpos,hx.port3,hpos,pC hle (qw hpos hx.outs ⟨hpos,by omega,by simp only[List.length_singleton];omega,rfl,rfl,rfl,rfl,?_⟩)⟩,fun q=>pC hle (qw hpos hx.outs ⟨hpos,by omega,by simp only[List.length_singleton];omega,?_⟩)⟩
 ·rw[q] at h;exact h
 ·rw[q] at h;exact h
def shB:Sh:=.int .u8
def shG:Sh:=.pair shB (.pair (.pair shB (.pair shB (.pair shB .unit))) .unit)
def shC:Sh:=.pair shB (.pair shB (.pair (.pair shB (.pair shB .unit)) (.pair .bool (.pair .bool (.pair (.pair shB (.pair shB (.pair shB (.pair shB .unit)))) (.pair (.slice shG) (.pair (.slice shB) .unit)))))))
theorem cu {a:Int} (w:shB.wf a):∃ n:Nat,n<256/\a=Int.ofNat n:=by
 have h:=yN w
 exact⟨a.toNat,by omega,by simp;omega⟩
theorem nM {α β:Type}{f:α->Value}{g:β->Value}{p:β->Prop}:∀ (l:List α),(∀ x∈l,∃ y,p y/\f x=g y)->∃ m:List β,(∀ y∈m,p y)/\l.map f=m.map g/\m.length=l.length
 |[],_=>⟨[],(fun _ h=>by cases h),rfl,rfl⟩
 |x::l,h=>by
  obtain⟨y,h1,h2⟩:=h x (by simp)
  obtain⟨m,h3,h4,h5⟩:=nM l fun z hz=>h z (by simp[hz])
  refine⟨y::m,fun z hz=>?_,by simp[h2,h4],by simp[h5]⟩
  rcases List.mem_cons.1 hz with rfl|hz
  ·exact h1
  ·exact h3 z hz
theorem vC {l:List Int} (w:(Sh.slice shB).wf l):∃ m:List Nat,(∀ v∈m,v<256)/\(Sh.slice shB).aU l=[aw 1 n8 m]:=by
 obtain⟨_,w2⟩:=w
 obtain⟨m,h1,h2,_⟩:=nM (f:=fun x=>elV shB.one (shB.aU x)) (g:=n8) (p:=(· < 256)) l fun x hx=>by
  obtain⟨n,q1,rfl⟩:=cu (w2 x hx)
  exact⟨n,q1,rfl⟩
 refine⟨m,h1,?_⟩
 ·show [FL 1 (l.map fun x=>elV shB.one (shB.aU x))]=_
  rw[h2];rfl
theorem wJ {l:List shG.Den} (w:(Sh.slice shG).wf l):∃ m:List GData,(∀ v∈m,GOk v)/\(Sh.slice shG).aU l=[FL 4 (m.map tW)]:=by
 obtain⟨_,w2⟩:=w
 obtain⟨m,h1,h2,_⟩:=nM (f:=fun x=>elV shG.one (shG.aU x)) (g:=tW) (p:=GOk) l fun x hx=>by
  obtain⟨k,⟨a,b,d,u⟩,u2⟩:=x
  obtain⟨w1,⟨wa,wb,wd,_⟩,_⟩:=w2 _ hx
  obtain⟨k,q1,rfl⟩:=cu w1
  obtain⟨a,q2,rfl⟩:=cu wa
  obtain⟨b,q3,rfl⟩:=cu wb
  obtain⟨d,q4,rfl⟩:=cu wd
  exact⟨⟨k,a,b,d⟩,⟨q1,q2,q3,q4⟩,rfl⟩
 refine⟨m,h1,?_⟩
 ·show [FL 4 (l.map fun x=>elV shG.one (shG.aU x))]=_
  rw[h2]
theorem AQ {x:shC.Den} (w:shC.wf x):∃ y:CData,CB y/\elV (!true) (shC.aU x)=bl y:=by
 obtain⟨i,f,⟨d0,d1,u1⟩,bu,me,⟨p0,p1,p2,p3,u2⟩,gs,os,u3⟩:=x
 obtain⟨wi,wf,⟨wd0,wd1,_⟩,_,_,⟨wp0,wp1,wp2,wp3,_⟩,wg,wo,_⟩:=w
 obtain⟨i,qi,rfl⟩:=cu wi
 obtain⟨f,qf,rfl⟩:=cu wf
 obtain⟨d0,qd0,rfl⟩:=cu wd0
 obtain⟨d1,qd1,rfl⟩:=cu wd1
 obtain⟨p0,qp0,rfl⟩:=cu wp0
 obtain⟨p1,qp1,rfl⟩:=cu wp1
 obtain⟨p2,qp2,rfl⟩:=cu wp2
 obtain⟨p3,qp3,rfl⟩:=cu wp3
 obtain⟨g,g1,g3⟩:=wJ wg
 obtain⟨o,o1,o3⟩:=vC wo
 refine⟨⟨i,f,d0,d1,bu,me,p0,p1,p2,p3,g,o⟩,⟨qi,qf,qd0,qd1,qp0,qp1,qp2,qp3,g1,o1⟩,?_⟩
 show Value.agg ⟨[n8 i,n8 f,n8 d0,n8 d1,.bool bu,.bool me,n8 p0,n8 p1,n8 p2,n8 p3]++((Sh.slice shG).aU gs++((Sh.slice shB).aU os++[]))⟩=_
 rw[g3,o3]
 rfl
structure FB (z:FData):Prop where
 model:z.model<256
 node:z.node<256
 pin:z.pin<256
 other:z.other<256
def shF:Sh:=.pair shB (.pair shB (.pair shB (.pair shB (.pair .bool .unit))))
theorem um {l:List shF.Den} (w:(Sh.slice shF).wf l):∃ m:List FData,(∀ v∈m,FB v)/\(Sh.slice shF).aU l=[aw 5 vB m]:=by
 obtain⟨_,w2⟩:=w
 obtain⟨m,h1,h2,_⟩:=nM (f:=fun x=>elV shF.one (shF.aU x)) (g:=vB) (p:=FB) l fun x hx=>by
  obtain⟨a,b,d,e,o,u⟩:=x
  obtain⟨wa,wb,wd,we,_⟩:=w2 _ hx
  obtain⟨a,q1,rfl⟩:=cu wa
  obtain⟨b,q2,rfl⟩:=cu wb
  obtain⟨d,q3,rfl⟩:=cu wd
  obtain⟨e,q4,rfl⟩:=cu we
  exact⟨⟨a,b,d,e,o⟩,⟨q1,q2,q3,q4⟩,rfl⟩
 refine⟨m,h1,?_⟩
 show [FL 5 (l.map fun x=>elV shF.one (shF.aU x))]=_
 rw[h2];rfl
structure PData where
 inp:List Nat
 state:List Nat
structure PB (z:PData):Prop where
 inp:∀ v∈z.inp,v<256
 state:∀ v∈z.state,v<256
structure CaseD where
 c:CData
 f:List FData
 p:List PData
structure CaseB (x:CaseD):Prop where
 c:CB x.c
 f:∀ z∈x.f,FB z
 p:∀ z∈x.p,PB z
set_option maxHeartbeats 8000000
def fx (p0:Circ) (p1:List Flt) (p2:List Nat) (K:List Nat×Nat->Prop):Prop:=bq p0 p1 (p2.map Int.ofNat) K
theorem ji {p0:Circ}{p1:List Flt}{p2:List Nat}{K:List Nat×Nat->Prop} (hm:fx p0 p1 p2 K) {h0:Heap} (hB:HasB vars h0):∃ r,K r/\CallD Tryd.prog NG 21 ⟨[au p0,(aw 5 az) p1,(aw 1 i64) p2]⟩ h0 ((fun (r:List Nat×Nat)=>Value.tuple ⟨[(aJ 1 i64) (r.1),i64 (r.2)]⟩) r) h0:=by
 have e:aw 1 z64 (p2.map Int.ofNat)=aw 1 i64 p2:=by unfold aw;rw[List.map_map];rfl
 rw[<- e]
 exact iI hm hB
def bY  (K:(Circ×(List Flt))->Prop):Prop :=
 gQ (⟨([(⟨0,([]:(List Nat)),0,0⟩:Node),(⟨0,([]:(List Nat)),0,0⟩:Node),(⟨5,([0,1]:(List Nat)),0,0⟩:Node)]:(List Node)),([(⟨#[97]⟩:ByteArray),(⟨#[98]⟩:ByteArray),(⟨#[121]⟩:ByteArray)]:(List ByteArray)),([]:(List Memo)),([2]:(List Nat))⟩:Circ) 0 (fun r5=>K ((⟨([(⟨0,([]:(List Nat)),0,0⟩:Node),(⟨0,([]:(List Nat)),0,0⟩:Node),(⟨5,([0,1]:(List Nat)),0,0⟩:Node)]:(List Node)),([(⟨#[97]⟩:ByteArray),(⟨#[98]⟩:ByteArray),(⟨#[121]⟩:ByteArray)]:(List ByteArray)),[],([2]:(List Nat))⟩:Circ),r5.1))
theorem gR  {K:(Circ×(List Flt))->Prop} (hm:bY  K) {h0:Heap} (hB:HasB vars h0):∃ r,K r/\CallD Tryd.prog NG 19 ⟨[]⟩ h0 ((fun (r:(Circ×(List Flt)))=>Value.tuple ⟨[au (r.1),(aw 5 az) (r.2)]⟩) r) h0:=by
 unfold bY at hm
 refine fw Tryd.func19 hB (enc:=(fun (r:(Circ×(List Flt)))=>Value.tuple ⟨[au (r.1),(aw 5 az) (r.2)]⟩)) (fun r=>PureV.tup (ah.cons (mO _) (ah.cons (ij (fun _=>hZ _)) (ah.nil)))) fun O=>?_;conv=>whnf
 refine gX ?_
 refine O.new (ak (l:=[(.slice none 0 0),(.slice none 0 0),(.slice none 0 0),(.slice none 0 0)]) rfl rfl rfl) fun g1 h O=>?_;refine gH ?_
 refine gX ?_
 refine fz ?_;refine gH ?_
 refine NewG.frzW rfl (VLe.els (s:=4) (es':=([(⟨0,([]:(List Nat)),0,0⟩:Node),(⟨0,([]:(List Nat)),0,0⟩:Node),(⟨5,([0,1]:(List Nat)),0,0⟩:Node)]).map ai) rfl (bR (enc:=ai) (s:=4) (fun _=>rfl) _) (LLe.cons (VLe.refl _ _) (LLe.cons (VLe.nil _ _) (LLe.cons (VLe.refl _ _) (LLe.cons (VLe.refl _ _) (LLe.cons (VLe.refl _ _) (LLe.cons (VLe.nil _ _) (LLe.cons (VLe.refl _ _) (LLe.cons (VLe.refl _ _) (LLe.cons (VLe.refl _ _) (LLe.cons (VLe.refl _ _) (LLe.cons (VLe.refl _ _) (LLe.cons (VLe.refl _ _) (LLe.nil _)))))))))))))) ?_;refine gH ?_
 refine fz ?_;refine gH ?_
 refine fz ?_;refine gH ?_
 refine O.new (ak (l:=[(.slice none 0 0),(.slice none 0 0),(.slice none 0 0),(.slice none 0 0)]) rfl rfl rfl) fun g3 h O=>?_;refine gH ?_
 refine O.stC 4 (.head _) [((aw 4 ai) ([(⟨0,([]:(List Nat)),0,0⟩:Node),(⟨0,([]:(List Nat)),0,0⟩:Node),(⟨5,([0,1]:(List Nat)),0,0⟩:Node)]:(List Node))),((aw 1 Value.string) ([(⟨#[97]⟩:ByteArray),(⟨#[98]⟩:ByteArray),(⟨#[121]⟩:ByteArray)]:(List ByteArray))),(.slice none 0 0),((aw 1 i64) ([2]:(List Nat)))] fun h O=>?_;refine gX ?_
 refine ldA (O.at (.head _)) ?_;refine gH ?_
 refine caW (nK hm O.has) (LLe.cons (VLe.agg (LLe.cons (VLe.refl _ _) (LLe.cons (VLe.refl _ _) (LLe.cons (VLe.nil _ _) (LLe.cons (VLe.refl _ _) (LLe.nil _)))))) (LLe.cons (VLe.refl _ _) (LLe.nil _))) fun r5 hm=>?_;refine gX ?_
 refine ldA (O.at (.head _)) ?_;refine gH ?_
 refine O.stC 4 (.tail _ (.head _)) [((aw 4 ai) ([(⟨0,([]:(List Nat)),0,0⟩:Node),(⟨0,([]:(List Nat)),0,0⟩:Node),(⟨5,([0,1]:(List Nat)),0,0⟩:Node)]:(List Node))),((aw 1 Value.string) ([(⟨#[97]⟩:ByteArray),(⟨#[98]⟩:ByteArray),(⟨#[121]⟩:ByteArray)]:(List ByteArray))),(.slice none 0 0),((aw 1 i64) ([2]:(List Nat)))] fun h O=>?_;refine gX ?_
 refine⟨_,aS rfl rfl (O.at (.tail _ (.head _))) rfl rfl (lbE rfl) rfl,?_⟩;conv=>whnf
 exact⟨((⟨([(⟨0,([]:(List Nat)),0,0⟩:Node),(⟨0,([]:(List Nat)),0,0⟩:Node),(⟨5,([0,1]:(List Nat)),0,0⟩:Node)]:(List Node)),([(⟨#[97]⟩:ByteArray),(⟨#[98]⟩:ByteArray),(⟨#[121]⟩:ByteArray)]:(List ByteArray)),[],([2]:(List Nat))⟩:Circ),r5.1),hm,O.ext,fun h2 F=>VLe.tup (LLe.cons (VLe.agg (LLe.cons (VLe.refl _ _) (LLe.cons (VLe.refl _ _) (LLe.cons (VLe.nil _ _) (LLe.cons (VLe.refl _ _) (LLe.nil _)))))) (LLe.cons (VLe.refl _ _) (LLe.nil _)))⟩
def aA (p0:(List Nat)) (p1:(List Nat)) (K:Bool->Prop):Prop :=
 al (α:=Bool) (fun k2=>((neN p0.length p1.length)=true->k2 true)/\((neN p0.length p1.length)=false->k2 (neN p0.length p0.length))) (fun v1=>(v1=true->K false)/\(v1=false->al (α:=Unit) (fun k3=>aP (S:=Nat) (fun v4 nx5=>((ltN v4 p0.length)=true->∃ x6,p0[v4]?=some x6/\∃ x7,p1[v4]?=some x7/\((neN x6 x7)=true->K false)/\((neN x6 x7)=false->v4+1<2 ^ 63/\nx5 (v4+1)))/\((ltN v4 p0.length)=false->k3 ())) 0) (fun _=>K true)))
theorem aW {p0:(List Nat)}{p1:(List Nat)}{K:Bool->Prop} (hm:aA p0 p1 K) {h0:Heap} (hB:HasB vars h0):∃ r,K r/\CallD Tryd.prog NG 22 ⟨[(aJ 1 i64) p0,(aw 1 i64) p1]⟩ h0 (Value.bool r) h0:=by
 unfold aA at hm
 refine fw Tryd.func22 hB (enc:=Value.bool) (fun r=>PureV.flat rfl) fun O=>?_;conv=>whnf
 apply Cs;conv=>whnf
 apply Cs;refine gH ?_
 apply Cs;conv=>whnf
 refine jn hm 33 [0,1] (fun s=>s) (fun v1 h=>Own vars h0 [] h) (fun v1=>[(17,(.bool v1))]) (fun hm=>?_) ?_
 ·refine gX ?_
  refine lmC ?_;refine gH ?_
  refine br hm (fun hm=>?_) fun hm=>?_
  ·refine gX ?_
   exact jx true hm O
  ·refine gX ?_
   refine cpC ?_;refine gH ?_
   refine lmC ?_;refine gH ?_
   exact jx (neN p0.length p0.length) hm O
 ·clear hm;rintro v1 base h hm O
  refine gX ?_
  refine br hm (fun hm=>?_) fun hm=>?_
  ·refine gX ?_
   exact fe hm O
  ·apply Cs;conv=>whnf
   refine jn hm 33 [] (fun s=>s) (fun _ h=>Own vars h0 [] h) (fun _=>[]) (fun hm=>?_) ?_
   ·refine gX ?_
    refine lw 33 [0,1] (σ:=Nat) (fun s=>s) (fun v4 h=>Own vars h0 [] h) (fun v4=>[(5,(i64 v4))]) 0 hm O ?_
    clear hm;rintro v4 nx5 base h hm O
    refine gX ?_
    refine lmC ?_;refine gX ?_
    refine br hm (fun hm=>?_) fun hm=>?_
    ·refine gX ?_
     refine atC hm fun x6 hx6 hm=>?_;refine gH ?_
     refine atF hm fun x7 hx7 hm=>?_;refine gX ?_
     refine br hm (fun hm=>?_) fun hm=>?_
     ·refine gX ?_
      exact fe hm O
     ·refine gX ?_
      refine bm hm fun hm=>?_;refine gH ?_
      exact jx (v4+1) hm O
    ·refine gX ?_
     exact jx () hm O
   ·clear hm;rintro _ base h hm O
    refine gX ?_
    exact fe hm O
def bp  (K:Bool->Prop):Prop :=
 bY  (fun r1=>bc r1.1 r1.2 (fun r4=>bn r1.1 r1.2 (fun r5=>cA r1.1 r1.2 (fun r6=>fx r1.1 r1.2 ([7]:(List Nat)) (fun r7=>al (α:=Bool) (fun k9=>((neN r4.2 0)=true->k9 true)/\((neN r4.2 0)=false->((neN r5.2 0)=true->k9 true)/\((neN r5.2 0)=false->((neN r6.2 0)=true->k9 true)/\((neN r6.2 0)=false->((neN r7.2 0)=true->k9 true)/\((neN r7.2 0)=false->((neN r4.1.length 4)=true->k9 true)/\((neN r4.1.length 4)=false->k9 (neN r5.1.length 2))))))) (fun v8=>(v8=true->K false)/\(v8=false->∃ x10,r4.1[0]?=some x10/\aA x10 ([0,2,4,6,8]:(List Nat)) (fun r11=>(r11=true->∃ x12,r4.1[1]?=some x12/\aA x12 ([1,7]:(List Nat)) (fun r13=>(r13=true->∃ x14,r4.1[2]?=some x14/\aA x14 ([3,9]:(List Nat)) (fun r15=>(r15=true->∃ x16,r4.1[3]?=some x16/\aA x16 ([5]:(List Nat)) (fun r17=>(r17=true->∃ x18,r5.1[0]?=some x18/\(((eqN x18.a 1)&&((eqN x18.b 3)&&true))=true->∃ x19,r5.1[1]?=some x19/\(((eqN x19.a 2)&&((eqN x19.b 3)&&true))=true->aA r6.1 ([0,1,3]:(List Nat)) (fun r20=>(r20=true->aA r7.1 ([1,5,7]:(List Nat)) (fun r21=>K r21))/\(r20=false->K false)))/\(((eqN x19.a 2)&&((eqN x19.b 3)&&true))=false->K false))/\(((eqN x18.a 1)&&((eqN x18.b 3)&&true))=false->K false))/\(r17=false->K false)))/\(r15=false->K false)))/\(r13=false->K false)))/\(r11=false->K false)))))))))
theorem gA  {K:Bool->Prop} (hm:bp  K) {h0:Heap} (hB:HasB vars h0):∃ r,K r/\CallD Tryd.prog NG 9 ⟨[]⟩ h0 (Value.bool r) h0:=by
 unfold bp at hm
 refine fw Tryd.func9 hB (enc:=Value.bool) (fun r=>PureV.flat rfl) fun O=>?_;conv=>whnf
 refine gX ?_
 refine ca (gR hm O.has) fun r1 hm=>?_;refine gH ?_
 refine O.new (ak (l:=[nS,nS,nS,nS]) rfl rfl rfl) fun g2 h O=>?_;refine gH ?_
 refine O.stC 4 (.head _) [((aw 4 ai) r1.1.nodes),((aw 1 Value.string) r1.1.names),((aw 3 aN) r1.1.mems),((aw 1 i64) r1.1.outs)] fun h O=>?_;refine gX ?_
 refine ldA (O.at (.head _)) ?_;refine gH ?_
 refine ca (cV hm O.has) fun r4 hm=>?_;refine gX ?_
 refine ldA (O.at (.head _)) ?_;refine gH ?_
 refine ca (gB hm O.has) fun r5 hm=>?_;refine gX ?_
 refine ldA (O.at (.head _)) ?_;refine gH ?_
 refine ca (kF hm O.has) fun r6 hm=>?_;refine gX ?_
 refine ldA (O.at (.head _)) ?_;refine gH ?_
 refine fz ?_;refine gH ?_
 refine ca (ji hm O.has) fun r7 hm=>?_;refine gH ?_
 apply Cs;conv=>whnf
 refine jn hm 114 [3,5,7,9] (fun s=>s) (fun v8 h=>Own vars h0 [] h) (fun v8=>[(63,(.bool v8))]) (fun hm=>?_) ?_
 ·refine gX ?_
  refine br hm (fun hm=>?_) fun hm=>?_
  ·refine gX ?_
   refine bt ?_;refine gH ?_
   refine bt ?_;refine gH ?_
   refine bt ?_;refine gH ?_
   refine bt ?_;refine gH ?_
   exact jx true hm (O.sel [] (by decide))
  ·refine gX ?_
   refine br hm (fun hm=>?_) fun hm=>?_
   ·refine gX ?_
    refine bt ?_;refine gH ?_
    refine bt ?_;refine gH ?_
    refine bt ?_;refine gH ?_
    exact jx true hm (O.sel [] (by decide))
   ·refine gX ?_
    refine br hm (fun hm=>?_) fun hm=>?_
    ·refine gX ?_
     refine bt ?_;refine gH ?_
     refine bt ?_;refine gH ?_
     exact jx true hm (O.sel [] (by decide))
    ·refine gX ?_
     refine br hm (fun hm=>?_) fun hm=>?_
     ·refine gX ?_
      refine bt ?_;refine gH ?_
      exact jx true hm (O.sel [] (by decide))
     ·refine gX ?_
      refine lmC ?_;refine gH ?_
      refine br hm (fun hm=>?_) fun hm=>?_
      ·refine gX ?_
       exact jx true hm (O.sel [] (by decide))
      ·refine gX ?_
       exact jx (neN r5.1.length 2) hm (O.sel [] (by decide))
 ·clear hm;rintro v8 base h hm O
  refine gX ?_
  refine br hm (fun hm=>?_) fun hm=>?_
  ·refine gX ?_
   exact fe hm O
  ·refine gX ?_
   refine atC hm fun x10 hx10 hm=>?_;refine gH ?_
   refine fz ?_;refine gH ?_
   refine ca (aW hm O.has) fun r11 hm=>?_;refine gH ?_
   refine br hm (fun hm=>?_) fun hm=>?_
   ·refine gX ?_
    refine atC hm fun x12 hx12 hm=>?_;refine gH ?_
    refine fz ?_;refine gH ?_
    refine ca (aW hm O.has) fun r13 hm=>?_;refine gH ?_
    refine br hm (fun hm=>?_) fun hm=>?_
    ·refine gX ?_
     refine atC hm fun x14 hx14 hm=>?_;refine gH ?_
     refine fz ?_;refine gH ?_
     refine ca (aW hm O.has) fun r15 hm=>?_;refine gH ?_
     refine br hm (fun hm=>?_) fun hm=>?_
     ·refine gX ?_
      refine atC hm fun x16 hx16 hm=>?_;refine gH ?_
      refine fz ?_;refine gH ?_
      refine ca (aW hm O.has) fun r17 hm=>?_;refine gH ?_
      refine br hm (fun hm=>?_) fun hm=>?_
      ·refine gX ?_
       refine atF hm fun x18 hx18 hm=>?_;refine gH ?_
       refine⟨.bool ((eqN x18.a 1)&&((eqN x18.b 3)&&true)),by kernel_rfl,?_⟩;refine gH ?_
       refine br hm (fun hm=>?_) fun hm=>?_
       ·refine gX ?_
        refine atF hm fun x19 hx19 hm=>?_;refine gH ?_
        refine⟨.bool ((eqN x19.a 2)&&((eqN x19.b 3)&&true)),by kernel_rfl,?_⟩;refine gH ?_
        refine br hm (fun hm=>?_) fun hm=>?_
        ·refine gX ?_
         refine fz ?_;refine gH ?_
         refine ca (aW hm O.has) fun r20 hm=>?_;refine gH ?_
         refine br hm (fun hm=>?_) fun hm=>?_
         ·refine gX ?_
          refine fz ?_;refine gH ?_
          refine ca (aW hm O.has) fun r21 hm=>?_;refine gX ?_
          exact fe hm O
         ·refine gX ?_
          exact fe hm O
        ·refine gX ?_
         refine bf ?_;refine gX ?_
         exact fe hm O
       ·refine gX ?_
        refine bf ?_;refine gH ?_
        refine bf ?_;refine gX ?_
        exact fe hm O
      ·refine gX ?_
       refine bf ?_;refine gH ?_
       refine bf ?_;refine gH ?_
       refine bf ?_;refine gX ?_
       exact fe hm O
     ·refine gX ?_
      refine bf ?_;refine gH ?_
      refine bf ?_;refine gH ?_
      refine bf ?_;refine gH ?_
      refine bf ?_;refine gX ?_
      exact fe hm O
    ·refine gX ?_
     refine bf ?_;refine gH ?_
     refine bf ?_;refine gH ?_
     refine bf ?_;refine gH ?_
     refine bf ?_;refine gH ?_
     refine bf ?_;refine gX ?_
     exact fe hm O
   ·refine gX ?_
    refine bf ?_;refine gH ?_
    refine bf ?_;refine gH ?_
    refine bf ?_;refine gH ?_
    refine bf ?_;refine gH ?_
    refine bf ?_;refine gH ?_
    refine bf ?_;refine gX ?_
    exact fe hm O
set_option maxHeartbeats 8000000
structure F2 where
 a:Flt
 b:Flt
def cy (p0:Circ) (p1:(List Flt)) (K:((List Flt)×Nat)->Prop):Prop :=
 bc p0 p1 (fun r1=>((neN r1.2 0)=true->K ([],r1.2))/\((neN r1.2 0)=false->40*r1.1.length<=2 ^ 48/\r1.1.length<2 ^ 63/\al (α:=(List Flt)) (fun k5=>aP (S:=((List Flt)×Nat)) (fun (v6,v7) nx8=>((ltN v7 r1.1.length)=true->∃ x9,r1.1[v7]?=some x9/\∃ x10,x9[0]?=some x10/\∃ x11,p1[x10]?=some x11/\v7<r1.1.length/\∃ x12,v6[v7]?=some x12/\v7+1<2 ^ 63/\nx8 ((v6.set v7 x11),(v7+1)))/\((ltN v7 r1.1.length)=false->k5 v6)) ((List.replicate r1.1.length ((⟨0,(⟨0,0⟩:LnZ),0,0⟩:Flt):Flt)),0)) (fun v4=>r1.1.length=v4.length/\K (v4,0))))
theorem kA {p0:Circ}{p1:(List Flt)}{K:((List Flt)×Nat)->Prop} (hm:cy p0 p1 K) {h0:Heap} (hB:HasB vars h0):∃ r,K r/\CallD Tryd.prog NG 13 ⟨[au p0,(aw 5 az) p1]⟩ h0 ((fun (r:((List Flt)×Nat))=>Value.tuple ⟨[(aw 5 az) (r.1),i64 (r.2)]⟩) r) h0:=by
 unfold cy at hm
 refine fw Tryd.func13 hB (enc:=(fun (r:((List Flt)×Nat))=>Value.tuple ⟨[(aw 5 az) (r.1),i64 (r.2)]⟩)) (fun r=>PureV.tup (ah.cons (ij (fun _=>hZ _)) (ah.cons (PureV.flat rfl) (ah.nil)))) fun O=>?_;conv=>whnf
 refine gX ?_
 refine fz ?_;refine gX ?_
 refine ca (cV hm O.has) fun r1 hm=>?_;refine gX ?_
 refine br hm (fun hm=>?_) fun hm=>?_
 ·refine gX ?_
  exact⟨([],r1.2),hm,O.ext,fun h2 F=>VLe.tup (LLe.cons (VLe.nil _ _) (LLe.cons (VLe.refl _ _) (LLe.nil _)))⟩
 ·refine gX ?_
  refine lmC ?_;refine gH ?_
  refine O.mkL (enc:=az) 40 5 (⟨0,(⟨0,0⟩:LnZ),0,0⟩:Flt) hm fun g2 h O hm=>?_;refine gH ?_
  refine jn hm 41 [8] (fun s=>s) (fun v4 h=>Own vars h0 [(sC g2 (flatC (v4.map az)))] h) (fun v4=>[]) (fun hm=>?_) ?_
  ·refine gX ?_
   refine lmC ?_;refine gX ?_
   refine lw 41 [1,8,23,24] (σ:=((List Flt)×Nat)) (fun s=>s) (fun (v6,v7) h=>Own vars h0 [(sC g2 (flatC (v6.map az)))] h) (fun (v6,v7)=>[(25,(i64 v7))]) ((List.replicate r1.1.length ((⟨0,(⟨0,0⟩:LnZ),0,0⟩:Flt):Flt)),0) hm O ?_
   clear hm;rintro⟨v6,v7⟩ nx8 base h hm O
   refine gX ?_
   refine br hm (fun hm=>?_) fun hm=>?_
   ·refine gX ?_
    refine atC hm fun x9 hx9 hm=>?_;refine gX ?_
    refine atC hm fun x10 hx10 hm=>?_;refine gH ?_
    refine atF hm fun x11 hx11 hm=>?_;refine gH ?_
    refine ix 5 hm fun x12 hx12 hm=>?_;refine gH ?_
    refine O.stE 5 (.head _) hx12 x11 fun h O=>?_;refine gX ?_
    refine bm hm fun hm=>?_;refine gH ?_
    exact jx ((v6.set v7 x11),(v7+1)) hm O
   ·refine gX ?_
    exact jx v6 hm O
  ·clear hm;rintro v4 base h hm O
   refine gX ?_
   obtain⟨hn13,hm⟩:=hm
   exact⟨(v4,0),hm,O.ext,fun h2 F=>VLe.tup (LLe.cons (O.jI F (Nat.le_refl _) (.head _) (fun _=>rfl) hn13) (LLe.cons (VLe.refl _ _) (LLe.nil _)))⟩
def aY:Nat->Circ->Nat->Nat->Nat->(Bool->Prop)->Prop
 |0,_,_,_,_,_=>False
 |fu+1,p0,p1,p2,p3,K=>((eqN p1 p2)=true->K true)/\((eqN p1 p2)=false->al (α:=Bool) (fun k2=>((ltN p0.nodes.length p3)=true->k2 true)/\((ltN p0.nodes.length p3)=false->∃ x3,p0.nodes[p1]?=some x3/\k2 (eqN x3.kind 14))) (fun v1=>(v1=true->K false)/\(v1=false->al (α:=Unit) (fun k4=>aP (S:=Nat) (fun v5 nx6=>∃ x7,p0.nodes[p1]?=some x7/\((ltN v5 x7.ins.length)=true->∃ x8,p0.nodes[p1]?=some x8/\∃ x9,x8.ins[v5]?=some x9/\p3+1<2 ^ 63/\aY fu p0 x9 p2 (p3+1) (fun r10=>(r10=true->K true)/\(r10=false->v5+1<2 ^ 63/\nx6 (v5+1))))/\((ltN v5 x7.ins.length)=false->k4 ())) 0) (fun _=>K false))))
def bL (p0:Circ) (p1:Nat) (p2:Nat) (p3:Nat) (K:Bool->Prop):Prop:=∃ n,aY n p0 p1 p2 p3 K
theorem fi:∀ (n:Nat) {p0:Circ}{p1:Nat}{p2:Nat}{p3:Nat}{K:Bool->Prop} (_:aY n p0 p1 p2 p3 K) {h0:Heap} (_:HasB vars h0),∃ r,K r/\CallD Tryd.prog NG 56 ⟨[au p0,i64 p1,i64 p2,i64 p3]⟩ h0 (Value.bool r) h0:=by
 intro n
 induction n with
 | zero=>intro p0 p1 p2 p3 K hm;exact False.elim hm
 | succ fu ih =>
  intro p0 p1 p2 p3 K hm h0 hB
  unfold aY at hm
  refine fw Tryd.func56 hB (enc:=Value.bool) (fun r=>PureV.flat rfl) fun O=>?_;conv=>whnf
  refine gX ?_
  refine fz ?_;refine gX ?_
  refine br hm (fun hm=>?_) fun hm=>?_
  ·refine gX ?_
   exact fe hm O
  ·apply Cs;conv=>whnf
   apply Cs;conv=>whnf
   refine jn hm 52 [1,2,3,4] (fun s=>s) (fun v1 h=>Own vars h0 [] h) (fun v1=>[(26,(.bool v1))]) (fun hm=>?_) ?_
   ·refine gX ?_
    refine br hm (fun hm=>?_) fun hm=>?_
    ·refine gX ?_
     exact jx true hm O
    ·refine gX ?_
     refine atF hm fun x3 hx3 hm=>?_;refine gH ?_
     exact jx (eqN x3.kind 14) hm O
   ·clear hm;rintro v1 base h hm O
    refine gX ?_
    refine br hm (fun hm=>?_) fun hm=>?_
    ·refine gX ?_
     exact fe hm O
    ·apply Cs;conv=>whnf
     refine jn hm 52 [] (fun s=>s) (fun _ h=>Own vars h0 [] h) (fun _=>[]) (fun hm=>?_) ?_
     ·refine gX ?_
      refine lw 52 [1,2,3,4] (σ:=Nat) (fun s=>s) (fun v5 h=>Own vars h0 [] h) (fun v5=>[(9,(i64 v5))]) 0 hm O ?_
      clear hm;rintro v5 nx6 base h hm O
      refine gX ?_
      refine atF hm fun x7 hx7 hm=>?_;refine gX ?_
      refine br hm (fun hm=>?_) fun hm=>?_
      ·refine gX ?_
       refine dF ?_
       refine gX ?_
       refine dF ?_
       refine gX ?_
       refine atF hm fun x8 hx8 hm=>?_;refine gH ?_
       refine dF ?_
       refine gX ?_
       refine atF hm fun x9 hx9 hm=>?_;refine gH ?_
       refine bm hm fun hm=>?_;refine gH ?_
       refine ca (ih hm O.has) fun r10 hm=>?_;refine gH ?_
       (first|refine⟨.inr (.inr (av rfl (O.at (.head _)) rfl rfl)),?_⟩|refine⟨.inr (.inr (av rfl (O.at (.tail _ (.head _))) rfl rfl)),?_⟩|refine⟨.inr (.inr (av rfl (O.at (.tail _ (.tail _ (.head _)))) rfl rfl)),?_⟩|refine⟨.inr (.inr (av rfl (O.at (.tail _ (.tail _ (.tail _ (.head _))))) rfl rfl)),?_⟩|refine⟨.inr (.inr (av rfl (O.at (.tail _ (.tail _ (.tail _ (.tail _ (.head _)))))) rfl rfl)),?_⟩|refine⟨.inr (.inr (av rfl (O.at (.tail _ (.tail _ (.tail _ (.tail _ (.tail _ (.head _))))))) rfl rfl)),?_⟩|refine⟨.inr (.inr (av rfl (O.at (.tail _ (.tail _ (.tail _ (.tail _ (.tail _ (.tail _ (.head _)))))))) rfl rfl)),?_⟩|refine⟨.inl (Ext.refl _),?_⟩|refine⟨.inr (.inr rfl),?_⟩|refine⟨.inr (by kernel_rfl),?_⟩|refine⟨.inl (by kernel_rfl),?_⟩|refine id ?_);refine gH ?_
       refine gX ?_
       refine br hm (fun hm=>?_) fun hm=>?_
       ·refine gX ?_
        exact fe hm O
       ·refine gX ?_
        refine bm hm fun hm=>?_;refine gH ?_
        exact jx (v5+1) hm O
      ·refine gX ?_
       exact jx () hm O
     ·clear hm;rintro _ base h hm O
      refine gX ?_
      exact fe hm O
theorem cZ {p0:Circ}{p1:Nat}{p2:Nat}{p3:Nat}{K:Bool->Prop} (hm:bL p0 p1 p2 p3 K) {h0:Heap} (hB:HasB vars h0):∃ r,K r/\CallD Tryd.prog NG 56 ⟨[au p0,i64 p1,i64 p2,i64 p3]⟩ h0 (Value.bool r) h0:=by
 obtain⟨n,hm⟩:=hm
 exact fi n hm hB
def bw (p0:Circ) (p1:Flt) (K:Nat->Prop):Prop :=
 al (α:=Bool) (fun k2=>((ltN 3 p1.model)=true->k2 true)/\((ltN 3 p1.model)=false->((ltN 1 p1.value)=true->k2 true)/\((ltN 1 p1.value)=false->((ltN p1.line.node 0)=true->k2 true)/\((ltN p1.line.node 0)=false->((!ltN p1.line.node p0.nodes.length)=true->k2 true)/\((!ltN p1.line.node p0.nodes.length)=false->((ltI p1.line.pin (Int.negSucc 0))=true->k2 true)/\((ltI p1.line.pin (Int.negSucc 0))=false->∃ x3,p0.nodes[p1.line.node]?=some x3/\k2 (!ltI p1.line.pin (Int.ofNat x3.ins.length)))))))) (fun v1=>(v1=true->K 1)/\(v1=false->((ltN p1.model 2)=true->((neN p1.other 0)=true->K 1)/\((neN p1.other 0)=false->K 0))/\((ltN p1.model 2)=false->al (α:=Bool) (fun k5=>((neZ p1.line.pin (Int.negSucc 0))=true->k5 true)/\((neZ p1.line.pin (Int.negSucc 0))=false->((ltN p1.other 0)=true->k5 true)/\((ltN p1.other 0)=false->((!ltN p1.other p0.nodes.length)=true->k5 true)/\((!ltN p1.other p0.nodes.length)=false->((eqN p1.line.node p1.other)=true->k5 true)/\((eqN p1.line.node p1.other)=false->((eqN p1.model 2)=true->((ltN p1.other p1.line.node)=true->k5 true)/\((ltN p1.other p1.line.node)=false->((eqN p1.model 3)=true->k5 (neN p1.value 0))/\((eqN p1.model 3)=false->k5 false)))/\((eqN p1.model 2)=false->((eqN p1.model 3)=true->k5 (neN p1.value 0))/\((eqN p1.model 3)=false->k5 false))))))) (fun v4=>(v4=true->K 1)/\(v4=false->al (α:=Bool) (fun k7=>∃ x8,p0.nodes[p1.line.node]?=some x8/\((eqN x8.kind 12)=true->k7 true)/\((eqN x8.kind 12)=false->∃ x9,p0.nodes[p1.other]?=some x9/\k7 (eqN x9.kind 12))) (fun v6=>(v6=true->K 7)/\(v6=false->al (α:=Bool) (fun k11=>bL p0 p1.line.node p1.other 0 (fun r12=>(r12=true->k11 true)/\(r12=false->bL p0 p1.other p1.line.node 0 (fun r13=>k11 r13)))) (fun v10=>(v10=true->K 6)/\(v10=false->K 0)))))))))
theorem gu {p0:Circ}{p1:Flt}{K:Nat->Prop} (hm:bw p0 p1 K) {h0:Heap} (hB:HasB vars h0):∃ r,K r/\CallD Tryd.prog NG 42 ⟨[au p0,az p1]⟩ h0 (i64 r) h0:=by
 unfold bw at hm
 refine fw Tryd.func42 hB (enc:=i64) (fun r=>PureV.flat rfl) fun O=>?_;conv=>whnf
 refine gX ?_
 refine fz ?_;refine gH ?_
 refine fz ?_;refine gH ?_
 apply Cs;conv=>whnf
 apply Cs;refine gH ?_
 apply Cs;conv=>whnf
 refine jn hm 128 [2,3,5] (fun s=>s) (fun v1 h=>Own vars h0 [] h) (fun v1=>[(52,(.bool v1))]) (fun hm=>?_) ?_
 ·refine gX ?_
  refine br hm (fun hm=>?_) fun hm=>?_
  ·refine gX ?_
   refine bt ?_;refine gH ?_
   refine bt ?_;refine gH ?_
   refine bt ?_;refine gH ?_
   refine bt ?_;refine gH ?_
   exact jx true hm O
  ·refine gX ?_
   refine br hm (fun hm=>?_) fun hm=>?_
   ·refine gX ?_
    refine bt ?_;refine gH ?_
    refine bt ?_;refine gH ?_
    refine bt ?_;refine gH ?_
    exact jx true hm O
   ·refine gX ?_
    refine br hm (fun hm=>?_) fun hm=>?_
    ·refine gX ?_
     refine bt ?_;refine gH ?_
     refine bt ?_;refine gH ?_
     exact jx true hm O
    ·refine gX ?_
     refine br hm (fun hm=>?_) fun hm=>?_
     ·refine gX ?_
      refine bt ?_;refine gH ?_
      exact jx true hm O
     ·refine gX ?_
      refine br hm (fun hm=>?_) fun hm=>?_
      ·refine gX ?_
       exact jx true hm O
      ·refine gX ?_
       refine dF ?_
       refine gX ?_
       refine atF hm fun x3 hx3 hm=>?_;refine gH ?_
       refine dF ?_
       refine gX ?_
       exact jx (!ltI p1.line.pin (Int.ofNat x3.ins.length)) hm O
 ·clear hm;rintro v1 base h hm O
  refine gX ?_
  refine br hm (fun hm=>?_) fun hm=>?_
  ·refine gX ?_
   exact fe hm O
  ·refine gX ?_
   refine br hm (fun hm=>?_) fun hm=>?_
   ·refine gX ?_
    refine br hm (fun hm=>?_) fun hm=>?_
    ·refine gX ?_
     exact fe hm O
    ·refine gX ?_
     exact fe hm O
   ·apply Cs;conv=>whnf
    apply Cs;conv=>whnf
    apply Cs;refine gH ?_
    apply Cs;conv=>whnf
    apply Cs;refine gH ?_
    apply Cs;conv=>whnf
    refine jn hm 128 [2,6,7] (fun s=>s) (fun v4 h=>Own vars h0 [] h) (fun v4=>[(101,(.bool v4))]) (fun hm=>?_) ?_
    ·refine gX ?_
     refine br hm (fun hm=>?_) fun hm=>?_
     ·refine gX ?_
      refine bt ?_;refine gH ?_
      refine bt ?_;refine gH ?_
      refine bt ?_;refine gH ?_
      refine bt ?_;refine gH ?_
      exact jx true hm O
     ·refine gX ?_
      refine br hm (fun hm=>?_) fun hm=>?_
      ·refine gX ?_
       refine bt ?_;refine gH ?_
       refine bt ?_;refine gH ?_
       refine bt ?_;refine gH ?_
       exact jx true hm O
      ·refine gX ?_
       refine br hm (fun hm=>?_) fun hm=>?_
       ·refine gX ?_
        refine bt ?_;refine gH ?_
        refine bt ?_;refine gH ?_
        exact jx true hm O
       ·refine gX ?_
        refine br hm (fun hm=>?_) fun hm=>?_
        ·refine gX ?_
         refine bt ?_;refine gH ?_
         exact jx true hm O
        ·refine gX ?_
         refine br hm (fun hm=>?_) fun hm=>?_
         ·refine gX ?_
          refine br hm (fun hm=>?_) fun hm=>?_
          ·refine gX ?_
           exact jx true hm O
          ·refine gX ?_
           refine br hm (fun hm=>?_) fun hm=>?_
           ·refine gX ?_
            exact jx (neN p1.value 0) hm O
           ·refine gX ?_
            exact jx false hm O
         ·refine gX ?_
          refine bf ?_;refine gH ?_
          refine br hm (fun hm=>?_) fun hm=>?_
          ·refine gX ?_
           exact jx (neN p1.value 0) hm O
          ·refine gX ?_
           exact jx false hm O
    ·clear hm;rintro v4 base h hm O
     refine gX ?_
     refine br hm (fun hm=>?_) fun hm=>?_
     ·refine gX ?_
      exact fe hm O
     ·apply Cs;conv=>whnf
      apply Cs;conv=>whnf
      refine jn hm 128 [2,6,7] (fun s=>s) (fun v6 h=>Own vars h0 [] h) (fun v6=>[(117,(.bool v6))]) (fun hm=>?_) ?_
      ·refine gX ?_
       refine atF hm fun x8 hx8 hm=>?_;refine gH ?_
       refine br hm (fun hm=>?_) fun hm=>?_
       ·refine gX ?_
        exact jx true hm O
       ·refine gX ?_
        refine atF hm fun x9 hx9 hm=>?_;refine gH ?_
        exact jx (eqN x9.kind 12) hm O
      ·clear hm;rintro v6 base h hm O
       refine gX ?_
       refine br hm (fun hm=>?_) fun hm=>?_
       ·refine gX ?_
        exact fe hm O
       ·apply Cs;conv=>whnf
        apply Cs;conv=>whnf
        refine jn hm 128 [] (fun s=>s) (fun v10 h=>Own vars h0 [] h) (fun v10=>[(127,(.bool v10))]) (fun hm=>?_) ?_
        ·refine gX ?_
         refine ca (cZ hm O.has) fun r12 hm=>?_;refine gH ?_
         refine br hm (fun hm=>?_) fun hm=>?_
         ·refine gX ?_
          exact jx true hm O
         ·refine gX ?_
          refine ca (cZ hm O.has) fun r13 hm=>?_;refine gH ?_
          exact jx r13 hm O
        ·clear hm;rintro v10 base h hm O
         refine gX ?_
         refine br hm (fun hm=>?_) fun hm=>?_
         ·refine gX ?_
          exact fe hm O
         ·refine gX ?_
          exact fe hm O
def dN (p0:FData) (p1:Circ) (K:Flt->Prop):Prop :=
 ((eqN p1.nodes.length 0)=true->K (⟨0,(⟨0,(Int.negSucc 0)⟩:LnZ),0,0⟩:Flt))/\((eqN p1.nodes.length 0)=false->0<4/\p0.node<256/\0<p1.nodes.length/\al (α:=Nat) (fun k6=>(p0.one=true->k6 1)/\(p0.one=false->k6 0)) (fun v5=>al (α:=(Nat×Nat×Nat)) (fun k10=>((!ltN (p0.model%4) 2)=true->p0.other<256/\0<p1.nodes.length/\al (α:=(Nat×Nat)) (fun k13=>al (α:=Bool) (fun k15=>((eqN (p0.model%4) 2)=true->k15 (ltN (p0.other%p1.nodes.length) (p0.node%p1.nodes.length)))/\((eqN (p0.model%4) 2)=false->k15 false)) (fun v14=>(v14=true->k13 ((p0.other%p1.nodes.length),(p0.node%p1.nodes.length)))/\(v14=false->k13 ((p0.node%p1.nodes.length),(p0.other%p1.nodes.length))))) (fun (v11,v12)=>al (α:=Nat) (fun k17=>((eqN (p0.model%4) 3)=true->k17 0)/\((eqN (p0.model%4) 3)=false->k17 v5)) (fun v16=>bw p1 (⟨(p0.model%4),(⟨v11,(Int.negSucc 0)⟩:LnZ),v16,v12⟩:Flt) (fun r18=>((eqN r18 0)=true->K (⟨(p0.model%4),(⟨v11,(Int.negSucc 0)⟩:LnZ),v16,v12⟩:Flt))/\((eqN r18 0)=false->k10 (0,v11,v16))))))/\((!ltN (p0.model%4) 2)=false->k10 ((p0.model%4),(p0.node%p1.nodes.length),v5))) (fun (v7,v8,v9)=>p0.pin<256/\∃ x19,p1.nodes[v8]?=some x19/\x19.ins.length+1<2 ^ 63/\0<(x19.ins.length+1) /\ -(2 ^ 63)<=((Int.ofNat (p0.pin%(x19.ins.length+1)))-(Int.ofNat 1))/\((Int.ofNat (p0.pin%(x19.ins.length+1)))-(Int.ofNat 1))<2 ^ 63/\K (⟨v7,(⟨v8,((Int.ofNat (p0.pin%(x19.ins.length+1)))-(Int.ofNat 1))⟩:LnZ),v9,0⟩:Flt))))
theorem nH {p0:FData}{p1:Circ}{K:Flt->Prop} (hm:dN p0 p1 K) {h0:Heap} (hB:HasB vars h0):∃ r,K r/\CallD Tryd.prog NG 25 ⟨[vB p0,au p1]⟩ h0 (az r) h0:=by
 unfold dN at hm
 refine fw Tryd.func25 hB (enc:=az) (fun r=>xE _) fun O=>?_;conv=>whnf
 refine gX ?_
 refine fz ?_;refine gH ?_
 refine fz ?_;refine gH ?_
 (first|refine O.new (ak (l:=[(n8 0),(i64 0),(z64 0),(n8 0),(i64 0)]) rfl rfl rfl) fun g1 h O=>?_|refine O.iw (ak (l:=[(n8 0),(i64 0),(z64 0),(n8 0),(i64 0)]) rfl rfl rfl) fun g1 h O=>?_);refine gH ?_
 refine gX ?_
 refine br hm (fun hm=>?_) fun hm=>?_
 ·refine gX ?_
  refine O.stC 5 (.head _) [(n8 0),(i64 0),(z64 (Int.negSucc 0)),(n8 0),(i64 0)] fun h O=>?_;refine gX ?_
  refine⟨_,aS rfl rfl (O.at (.head _)) rfl rfl (lbE rfl) rfl,?_⟩;conv=>whnf
  exact fe hm O
 ·refine gX ?_
  refine lI hm fun hm=>?_;refine gH ?_
  refine aCv hm wI8 fun hm=>?_;refine gH ?_
  refine dF ?_
  refine gX ?_
  refine lI hm fun hm=>?_;refine gH ?_
  (first|refine O.new (ak (l:=[(n8 0),(i64 0),(z64 0),(n8 0),(i64 0)]) rfl rfl rfl) fun g3 h O=>?_|refine O.iw (ak (l:=[(n8 0),(i64 0),(z64 0),(n8 0),(i64 0)]) rfl rfl rfl) fun g3 h O=>?_);refine gH ?_
  refine O.stC 5 (.head _) [(n8 (p0.model%4)),(i64 (p0.node%p1.nodes.length)),(z64 (Int.negSucc 0)),(n8 0),(i64 0)] fun h O=>?_;refine gH ?_
  (first|refine⟨.inr (.inr (av rfl (O.at (.head _)) rfl rfl)),?_⟩|refine⟨.inr (.inr (av rfl (O.at (.tail _ (.head _))) rfl rfl)),?_⟩|refine⟨.inr (.inr (av rfl (O.at (.tail _ (.tail _ (.head _)))) rfl rfl)),?_⟩|refine⟨.inr (.inr (av rfl (O.at (.tail _ (.tail _ (.tail _ (.head _))))) rfl rfl)),?_⟩|refine⟨.inr (.inr (av rfl (O.at (.tail _ (.tail _ (.tail _ (.tail _ (.head _)))))) rfl rfl)),?_⟩|refine⟨.inr (.inr (av rfl (O.at (.tail _ (.tail _ (.tail _ (.tail _ (.tail _ (.head _))))))) rfl rfl)),?_⟩|refine⟨.inr (.inr (av rfl (O.at (.tail _ (.tail _ (.tail _ (.tail _ (.tail _ (.tail _ (.head _)))))))) rfl rfl)),?_⟩|refine⟨.inl (Ext.refl _),?_⟩|refine⟨.inr (.inr rfl),?_⟩|refine⟨.inr (by kernel_rfl),?_⟩|refine⟨.inl (by kernel_rfl),?_⟩|refine id ?_);refine gH ?_
  refine jn hm 86 [2,3,4,5] (fun s=>s) (fun v5 h=>Own vars h0 [(sC g1 [(n8 0),(i64 0),(z64 0),(n8 0),(i64 0)]),(sC g3 [(n8 (p0.model%4)),(i64 (p0.node%p1.nodes.length)),(z64 (Int.negSucc 0)),(n8 v5),(i64 0)])] h) (fun v5=>[]) (fun hm=>?_) ?_
  ·refine gX ?_
   refine br hm (fun hm=>?_) fun hm=>?_
   ·refine gX ?_
    refine O.stC 1 (.head _) [(n8 (p0.model%4)),(i64 (p0.node%p1.nodes.length)),(z64 (Int.negSucc 0)),(n8 1),(i64 0)] fun h O=>?_;refine gH ?_
    exact jx 1 hm (O.sel [1,0] (by decide))
   ·refine gX ?_
    exact jx 0 hm (O.sel [1,0] (by decide))
  ·clear hm;rintro v5 base h hm O
   conv=>whnf
   refine jn hm 86 [2,3,4,5] (fun s=>s) (fun (v7,v8,v9) h=>Own vars h0 [(sC g1 [(n8 0),(i64 0),(z64 0),(n8 0),(i64 0)]),(sC g3 [(n8 v7),(i64 v8),(z64 (Int.negSucc 0)),(n8 v9),(i64 0)])] h) (fun (v7,v8,v9)=>[]) (fun hm=>?_) ?_
   ·refine gX ?_
    refine br hm (fun hm=>?_) fun hm=>?_
    ·refine gX ?_
     refine aCv hm wI8 fun hm=>?_;refine gH ?_
     refine lI hm fun hm=>?_;refine gH ?_
     refine O.stC 1 (.tail _ (.head _)) [(n8 (p0.model%4)),(i64 (p0.node%p1.nodes.length)),(z64 (Int.negSucc 0)),(n8 v5),(i64 (p0.other%p1.nodes.length))] fun h O=>?_;refine gH ?_
     refine jn hm 86 [2,3,4,5] (fun s=>s) (fun (v11,v12) h=>Own vars h0 [(sC g1 [(n8 0),(i64 0),(z64 0),(n8 0),(i64 0)]),(sC g3 [(n8 (p0.model%4)),(i64 v11),(z64 (Int.negSucc 0)),(n8 v5),(i64 v12)])] h) (fun (v11,v12)=>[]) (fun hm=>?_) ?_
     ·refine jn hm 86 [2,3,4,5] (fun s=>s) (fun v14 h=>Own vars h0 [(sC g1 [(n8 0),(i64 0),(z64 0),(n8 0),(i64 0)]),(sC g3 [(n8 (p0.model%4)),(i64 (p0.node%p1.nodes.length)),(z64 (Int.negSucc 0)),(n8 v5),(i64 (p0.other%p1.nodes.length))])] h) (fun v14=>[(48,(.bool v14))]) (fun hm=>?_) ?_
      ·refine gX ?_
       refine br hm (fun hm=>?_) fun hm=>?_
       ·refine gX ?_
        exact jx (ltN (p0.other%p1.nodes.length) (p0.node%p1.nodes.length)) hm O
       ·refine gX ?_
        exact jx false hm O
      ·clear hm;rintro v14 base h hm O
       refine gX ?_
       refine br hm (fun hm=>?_) fun hm=>?_
       ·refine gX ?_
        refine O.stC 1 (.tail _ (.head _)) [(n8 (p0.model%4)),(i64 (p0.other%p1.nodes.length)),(z64 (Int.negSucc 0)),(n8 v5),(i64 (p0.other%p1.nodes.length))] fun h O=>?_;refine gH ?_
        refine O.stC 1 (.tail _ (.head _)) [(n8 (p0.model%4)),(i64 (p0.other%p1.nodes.length)),(z64 (Int.negSucc 0)),(n8 v5),(i64 (p0.node%p1.nodes.length))] fun h O=>?_;refine gH ?_
        exact jx ((p0.other%p1.nodes.length),(p0.node%p1.nodes.length)) hm O
       ·refine gX ?_
        exact jx ((p0.node%p1.nodes.length),(p0.other%p1.nodes.length)) hm O
     ·clear hm;rintro⟨v11,v12⟩ base h hm O
      conv=>whnf
      refine jn hm 86 [2,3,4,5] (fun s=>s) (fun v16 h=>Own vars h0 [(sC g1 [(n8 0),(i64 0),(z64 0),(n8 0),(i64 0)]),(sC g3 [(n8 (p0.model%4)),(i64 v11),(z64 (Int.negSucc 0)),(n8 v16),(i64 v12)])] h) (fun v16=>[]) (fun hm=>?_) ?_
      ·refine gX ?_
       refine br hm (fun hm=>?_) fun hm=>?_
       ·refine gX ?_
        refine O.stC 1 (.tail _ (.head _)) [(n8 (p0.model%4)),(i64 v11),(z64 (Int.negSucc 0)),(n8 0),(i64 v12)] fun h O=>?_;refine gH ?_
        exact jx 0 hm O
       ·refine gX ?_
        exact jx v5 hm O
      ·clear hm;rintro v16 base h hm O
       refine gX ?_
       refine ldA (O.at (.tail _ (.head _))) ?_;refine gH ?_
       refine ca (gu hm O.has) fun r18 hm=>?_;refine gX ?_
       refine br hm (fun hm=>?_) fun hm=>?_
       ·refine gX ?_
        refine ldA (O.at (.tail _ (.head _))) ?_;refine gH ?_
        refine O.stC 5 (.head _) [(n8 (p0.model%4)),(i64 v11),(z64 (Int.negSucc 0)),(n8 v16),(i64 v12)] fun h O=>?_;refine gX ?_
        refine⟨_,aS rfl rfl (O.at (.head _)) rfl rfl (lbE rfl) rfl,?_⟩;conv=>whnf
        exact fe hm O
       ·refine gX ?_
        refine O.stC 1 (.tail _ (.head _)) [(n8 0),(i64 v11),(z64 (Int.negSucc 0)),(n8 v16),(i64 v12)] fun h O=>?_;refine gX ?_
        refine O.stC 1 (.tail _ (.head _)) [(n8 0),(i64 v11),(z64 (Int.negSucc 0)),(n8 v16),(i64 0)] fun h O=>?_;refine gH ?_
        exact jx (0,v11,v16) hm O
    ·refine gX ?_
     exact jx ((p0.model%4),(p0.node%p1.nodes.length),v5) hm O
   ·clear hm;rintro⟨v7,v8,v9⟩ base h hm O
    refine gX ?_
    refine aCv hm wI8 fun hm=>?_;refine gH ?_
    refine dF ?_
    refine gX ?_
    refine atF hm fun x19 hx19 hm=>?_;refine gH ?_
    refine dF ?_
    refine gX ?_
    refine bm hm fun hm=>?_;refine gH ?_
    refine lI hm fun hm=>?_;refine gH ?_
    refine⟨_,vq (a:=(Int.ofNat (p0.pin%(x19.ins.length+1)))) (b:=(Int.ofNat 1)) rfl rfl hm.1 hm.2.1,?_⟩;refine gH ?_
    replace hm:=hm.2.2
    refine O.stC 1 (.tail _ (.head _)) [(n8 v7),(i64 v8),(z64 ((Int.ofNat (p0.pin%(x19.ins.length+1)))-(Int.ofNat 1))),(n8 v9),(i64 0)] fun h O=>?_;refine gH ?_
    (first|refine⟨.inr (.inr (av rfl (O.at (.head _)) rfl rfl)),?_⟩|refine⟨.inr (.inr (av rfl (O.at (.tail _ (.head _))) rfl rfl)),?_⟩|refine⟨.inr (.inr (av rfl (O.at (.tail _ (.tail _ (.head _)))) rfl rfl)),?_⟩|refine⟨.inr (.inr (av rfl (O.at (.tail _ (.tail _ (.tail _ (.head _))))) rfl rfl)),?_⟩|refine⟨.inr (.inr (av rfl (O.at (.tail _ (.tail _ (.tail _ (.tail _ (.head _)))))) rfl rfl)),?_⟩|refine⟨.inr (.inr (av rfl (O.at (.tail _ (.tail _ (.tail _ (.tail _ (.tail _ (.head _))))))) rfl rfl)),?_⟩|refine⟨.inr (.inr (av rfl (O.at (.tail _ (.tail _ (.tail _ (.tail _ (.tail _ (.tail _ (.head _)))))))) rfl rfl)),?_⟩|refine⟨.inl (Ext.refl _),?_⟩|refine⟨.inr (.inr rfl),?_⟩|refine⟨.inr (by kernel_rfl),?_⟩|refine⟨.inl (by kernel_rfl),?_⟩|refine id ?_);refine gH ?_
    refine gX ?_
    refine ldA (O.at (.tail _ (.head _))) ?_;refine gH ?_
    refine O.stC 5 (.head _) [(n8 v7),(i64 v8),(z64 ((Int.ofNat (p0.pin%(x19.ins.length+1)))-(Int.ofNat 1))),(n8 v9),(i64 0)] fun h O=>?_;refine gX ?_
    refine⟨_,aS rfl rfl (O.at (.head _)) rfl rfl (lbE rfl) rfl,?_⟩;conv=>whnf
    exact fe hm O
def bI (p0:Circ) (p1:(List FData)) (K:(List Flt)->Prop):Prop :=
 al (α:=(List Flt)) (fun k6=>aP (S:=((List Flt)×Nat)) (fun (v8,v9) nx11=>al (α:=Bool) (fun k14=>((ltN v9 p1.length)=true->k14 (ltN v9 80))/\((ltN v9 p1.length)=false->k14 false)) (fun v12=>(v12=true->∃ x15,p1[v9]?=some x15/\dN x15 p0 (fun r16=>(v8.length+([r16]:(List Flt)).length)*40<=2 ^ 47/\v9+1<2 ^ 63/\nx11 ((v8++([r16]:(List Flt))),(v9+1))))/\(v12=false->k6 v8))) (([]:List Flt),0)) (fun v4=>K v4)
theorem gO {p0:Circ}{p1:(List FData)}{K:(List Flt)->Prop} (hm:bI p0 p1 K) {h0:Heap} (hB:HasB vars h0):∃ r,K r/\CallD Tryd.prog NG 12 ⟨[au p0,(aw 5 vB) p1]⟩ h0 ((aw 5 az) r) h0:=by
 unfold bI at hm
 refine fw Tryd.func12 hB (enc:=(aw 5 az)) (fun r=>ij (fun _=>hZ _)) fun O=>?_;conv=>whnf
 refine gX ?_
 refine fz ?_;refine gH ?_
 have O:=O.cH (.cells (flatC ((([]:List Flt)).map az)) false)
 apply Cs;conv=>whnf
 apply Cs;refine gH ?_
 have O:=O.cH (.cells (flatC ((([]:List Flt)).map az)) false)
 refine jn (σ:=(List Flt)×Option Nat) hm 27 [] (fun s=>s.1) (fun (v4,a3) h=>(a3=none->v4=[])/\Own vars h0 [(a3,.cells (flatC (v4.map az)) false)] h) (fun (v4,a3)=>[(5,(ae 5 a3 (v4.map az)))]) (fun hm=>?_) ?_
 ·refine gX ?_
  refine lw 27 [1,2] (σ:=((List Flt)×Nat)×Option Nat) (fun s=>s.1) (fun ((v8,v9),a7) h=>(a7=none->v8=[])/\Own vars h0 [(a7,.cells (flatC (v8.map az)) false)] h) (fun ((v8,v9),a7)=>[(5,(ae 5 a7 (v8.map az))),(6,(i64 v9))]) ((([]:List Flt),0),none) hm ⟨(fun _=>rfl),(O.sel [0] (by decide))⟩ ?_
  clear hm;rintro⟨⟨v8,v9⟩,a7⟩ nx11 base h hm ⟨ha10,O⟩
  conv=>whnf
  apply Cs;conv=>whnf
  refine jn hm 27 [1,2,5,6] (fun s=>s) (fun v12 h=>(a7=none->v8=[])/\Own vars h0 [(a7,.cells (flatC (v8.map az)) false)] h) (fun v12=>[(14,(.bool v12))]) (fun hm=>?_) ?_
  ·refine gX ?_
   refine br hm (fun hm=>?_) fun hm=>?_
   ·refine gX ?_
    exact jx (ltN v9 80) hm ⟨ha10,O⟩
   ·refine gX ?_
    exact jx false hm ⟨ha10,O⟩
  ·clear hm;rintro v12 base h hm ⟨ha13,O⟩
   refine gX ?_
   refine br hm (fun hm=>?_) fun hm=>?_
   ·refine gX ?_
    refine atF hm fun x15 hx15 hm=>?_;refine gH ?_
    refine dF ?_
    refine gX ?_
    refine dF ?_
    refine gX ?_
    refine ca (nH hm O.has) fun r16 hm=>?_;refine gH ?_
    (first|refine⟨.inr (.inr (av rfl (O.at (.head _)) rfl rfl)),?_⟩|refine⟨.inr (.inr (av rfl (O.at (.tail _ (.head _))) rfl rfl)),?_⟩|refine⟨.inr (.inr (av rfl (O.at (.tail _ (.tail _ (.head _)))) rfl rfl)),?_⟩|refine⟨.inr (.inr (av rfl (O.at (.tail _ (.tail _ (.tail _ (.head _))))) rfl rfl)),?_⟩|refine⟨.inr (.inr (av rfl (O.at (.tail _ (.tail _ (.tail _ (.tail _ (.head _)))))) rfl rfl)),?_⟩|refine⟨.inr (.inr (av rfl (O.at (.tail _ (.tail _ (.tail _ (.tail _ (.tail _ (.head _))))))) rfl rfl)),?_⟩|refine⟨.inr (.inr (av rfl (O.at (.tail _ (.tail _ (.tail _ (.tail _ (.tail _ (.tail _ (.head _)))))))) rfl rfl)),?_⟩|refine⟨.inl (Ext.refl _),?_⟩|refine⟨.inr (.inr rfl),?_⟩|refine⟨.inr (by kernel_rfl),?_⟩|refine⟨.inl (by kernel_rfl),?_⟩|refine id ?_);refine gH ?_
    refine O.dR (l:=([r16]:(List Flt))) (enc:=az) (s:=5) (z:=(.agg ⟨[(n8 0),(i64 0),(z64 0),(n8 0),(i64 0)]⟩)) rfl rfl (by kernel_rfl) (by kernel_rfl) rfl rfl rfl rfl (fun _=>rfl) fun g17 h O=>?_;refine gH ?_
    refine O.fG (enc:=az) (l:=v8) (new:=([r16]:(List Flt))) (s:=5) (b:=40) (.tail _ (.head _)) ha13 rfl rfl rfl rfl rfl rfl rfl rfl (YOk.own (O.at (.head _)) rfl (fun _=>rfl) rfl) (fun _=>rfl) (fun _=>rfl) (by decide) hm.1 fun a19 h ha20 O=>?_;refine gH ?_
    (first|refine⟨.inr (.inr (av rfl (O.at (.head _)) rfl rfl)),?_⟩|refine⟨.inr (.inr (av rfl (O.at (.tail _ (.head _))) rfl rfl)),?_⟩|refine⟨.inr (.inr (av rfl (O.at (.tail _ (.tail _ (.head _)))) rfl rfl)),?_⟩|refine⟨.inr (.inr (av rfl (O.at (.tail _ (.tail _ (.tail _ (.head _))))) rfl rfl)),?_⟩|refine⟨.inr (.inr (av rfl (O.at (.tail _ (.tail _ (.tail _ (.tail _ (.head _)))))) rfl rfl)),?_⟩|refine⟨.inr (.inr (av rfl (O.at (.tail _ (.tail _ (.tail _ (.tail _ (.tail _ (.head _))))))) rfl rfl)),?_⟩|refine⟨.inr (.inr (av rfl (O.at (.tail _ (.tail _ (.tail _ (.tail _ (.tail _ (.tail _ (.head _)))))))) rfl rfl)),?_⟩|refine⟨.inl (Ext.refl _),?_⟩|refine⟨.inr (.inr rfl),?_⟩|refine⟨.inr (by kernel_rfl),?_⟩|refine⟨.inl (by kernel_rfl),?_⟩|refine id ?_);refine gH ?_
    replace hm:=hm.2
    refine gX ?_
    refine bm hm fun hm=>?_;refine gH ?_
    exact jx (((v8++([r16]:(List Flt))),(v9+1)),a19) hm ⟨ha20,(O.sel [1] (by decide))⟩
   ·refine gX ?_
    exact jx (v8,a7) hm ⟨ha13,O⟩
 ·clear hm;rintro⟨v4,a3⟩ base h hm ⟨ha5,O⟩
  refine gX ?_
  exact⟨v4,hm,O.ext,fun h2 F=>O.iF F (Nat.le_refl _) (.head _) ha5 (fun _=>rfl)⟩
def aT (p0:CData) (p1:(List FData)) (K:Bool->Prop):Prop :=
 bM p0 (fun r1=>bI r1 p1 (fun r4=>bc r1 r4 (fun r5=>cy r1 r4 (fun r6=>al (α:=Bool) (fun k8=>((neN r5.2 0)=true->k8 true)/\((neN r5.2 0)=false->((neN r6.2 0)=true->k8 true)/\((neN r6.2 0)=false->((neN r6.1.length r5.1.length)=true->k8 true)/\((neN r6.1.length r5.1.length)=false->k8 (neN r5.1.length r5.1.length))))) (fun v7=>(v7=true->K false)/\(v7=false->8*r4.length<=2 ^ 48/\r4.length<2 ^ 63/\8*r4.length<=2 ^ 48/\r4.length<2 ^ 63/\al (α:=((List Nat)×(List Nat))) (fun k15=>aP (S:=((List Nat)×(List Nat)×Int×Nat)) (fun (v16,v17,v18,v19) nx20=>((ltN v19 r5.1.length)=true->al (α:=((List Nat)×(List Nat)×Nat)) (fun k24=>al (α:=Bool) (fun k26=>∃ x27,r5.1[v19]?=some x27/\((eqN x27.length 0)=true->k26 true)/\((eqN x27.length 0)=false->∃ x28,r5.1[v19]?=some x28/\∃ x29,r5.1[v19]?=some x29/\((neN x28.length x29.length)=true->k26 true)/\((neN x28.length x29.length)=false->∃ x30,r5.1[v19]?=some x30/\∃ x31,x30[0]?=some x31/\((!ltI v18 (Int.ofNat x31))=true->k26 true)/\((!ltI v18 (Int.ofNat x31))=false->∃ x32,r5.1[v19]?=some x32/\∃ x33,x32[0]?=some x33/\((!ltN x33 r4.length)=true->k26 true)/\((!ltN x33 r4.length)=false->∃ x34,r6.1[v19]?=some x34/\∃ x35,r5.1[v19]?=some x35/\∃ x36,x35[0]?=some x36/\∃ x37,r4[x36]?=some x37/\k26 (!((eqN x34.model x37.model)&&(((eqN x34.line.node x37.line.node)&&((eqZ x34.line.pin x37.line.pin)&&true))&&((eqN x34.value x37.value)&&((eqN x34.other x37.other)&&true)))))))))) (fun v25=>(v25=true->K false)/\(v25=false->∃ x38,r5.1[v19]?=some x38/\∃ x39,x38[0]?=some x39/\aP (S:=((List Nat)×(List Nat)×Nat)) (fun (v40,v41,v42) nx43=>∃ x44,r5.1[v19]?=some x44/\((ltN v42 x44.length)=true->al (α:=Bool) (fun k46=>∃ x47,r5.1[v19]?=some x47/\∃ x48,x47[v42]?=some x48/\((ltN x48 0)=true->k46 true)/\((ltN x48 0)=false->∃ x49,r5.1[v19]?=some x49/\∃ x50,x49[v42]?=some x50/\((!ltN x50 r4.length)=true->k46 true)/\((!ltN x50 r4.length)=false->((ltN 0 v42)=true->∃ x51,r5.1[v19]?=some x51/\∃ x52,x51[v42]?=some x52/\∃ x53,r5.1[v19]?=some x53/\1<=v42/\v42<2 ^ 63/\∃ x54,x53[(v42-1)]?=some x54/\k46 (!ltN x54 x52))/\((ltN 0 v42)=false->k46 false)))) (fun v45=>(v45=true->K false)/\(v45=false->∃ x55,r5.1[v19]?=some x55/\∃ x56,x55[v42]?=some x56/\x56<r4.length/\∃ x57,v40[x56]?=some x57/\x57+1<2 ^ 63/\x56<r4.length/\∃ x58,v40[x56]?=some x58/\∃ x59,r5.1[v19]?=some x59/\∃ x60,x59[v42]?=some x60/\x60<r4.length/\∃ x61,v41[x60]?=some x61/\al (α:=Bool) (fun k63=>∃ x64,r5.1[v19]?=some x64/\∃ x65,x64[v42]?=some x65/\∃ x66,r4[x65]?=some x66/\((neN x66.model 0)=true->∃ x67,r5.1[v19]?=some x67/\∃ x68,x67[v42]?=some x68/\∃ x69,r4[x68]?=some x69/\∃ x70,r6.1[v19]?=some x70/\((!((eqN x69.model x70.model)&&(((eqN x69.line.node x70.line.node)&&((eqZ x69.line.pin x70.line.pin)&&true))&&((eqN x69.value x70.value)&&((eqN x69.other x70.other)&&true)))))=true->k63 true)/\((!((eqN x69.model x70.model)&&(((eqN x69.line.node x70.line.node)&&((eqZ x69.line.pin x70.line.pin)&&true))&&((eqN x69.value x70.value)&&((eqN x69.other x70.other)&&true)))))=false->∃ x71,r6.1[v19]?=some x71/\∃ x72,r5.1[v19]?=some x72/\∃ x73,x72[v42]?=some x73/\∃ x74,r4[x73]?=some x74/\k63 (neN x71.model x74.model)))/\((neN x66.model 0)=false->∃ x75,r6.1[v19]?=some x75/\∃ x76,r5.1[v19]?=some x76/\∃ x77,x76[v42]?=some x77/\∃ x78,r4[x77]?=some x78/\k63 (neN x75.model x78.model))) (fun v62=>(v62=true->K false)/\(v62=false->v42+1<2 ^ 63/\nx43 ((v40.set x56 (x57+1)),(v41.set x60 v19),(v42+1)))))))/\((ltN v42 x44.length)=false->k24 (v40,v41,x39))) (v16,v17,0)))) (fun (v21,v22,v23)=>v19+1<2 ^ 63/\nx20 (v21,v22,v23,(v19+1))))/\((ltN v19 r5.1.length)=false->k15 (v16,v17))) ((List.replicate r4.length (0:Nat)),(List.replicate r4.length (0:Nat)),(Int.negSucc 0),0)) (fun (v13,v14)=>al (α:=Unit) (fun k79=>aP (S:=Nat) (fun v80 nx81=>((ltN v80 r4.length)=true->al (α:=Unit) (fun k82=>aP (S:=Nat) (fun v83 nx84=>((ltN v83 v80)=true->al (α:=Bool) (fun k86=>∃ x87,r4[v80]?=some x87/\∃ x88,r4[v83]?=some x88/\(((eqN x87.model x88.model)&&(((eqN x87.line.node x88.line.node)&&((eqZ x87.line.pin x88.line.pin)&&true))&&((eqN x87.value x88.value)&&((eqN x87.other x88.other)&&true))))=true->v80<r4.length/\∃ x89,v14[v80]?=some x89/\v83<r4.length/\∃ x90,v14[v83]?=some x90/\k86 (neN x89 x90))/\(((eqN x87.model x88.model)&&(((eqN x87.line.node x88.line.node)&&((eqZ x87.line.pin x88.line.pin)&&true))&&((eqN x87.value x88.value)&&((eqN x87.other x88.other)&&true))))=false->k86 false)) (fun v85=>(v85=true->K false)/\(v85=false->v83+1<2 ^ 63/\nx84 (v83+1))))/\((ltN v83 v80)=false->k82 ())) 0) (fun _=>v80<r4.length/\∃ x91,v13[v80]?=some x91/\((neN x91 1)=true->K false)/\((neN x91 1)=false->v80+1<2 ^ 63/\nx81 (v80+1))))/\((ltN v80 r4.length)=false->k79 ())) 0) (fun _=>bp  (fun r92=>K r92)))))))))
theorem dK {p0:CData}{p1:(List FData)}{K:Bool->Prop} (hm:aT p0 p1 K) {h0:Heap} (hB:HasB vars h0):∃ r,K r/\CallD Tryd.prog NG 5 ⟨[bl p0,(aw 5 vB) p1]⟩ h0 (Value.bool r) h0:=by
 unfold aT at hm
 refine fw Tryd.func5 hB (enc:=Value.bool) (fun r=>PureV.flat rfl) fun O=>?_;conv=>whnf
 refine gX ?_
 refine fz ?_;refine gX ?_
 refine ca (fM hm O.has) fun r1 hm=>?_;refine gH ?_
 (first|refine O.new (ak (l:=[nS,nS,nS,nS]) rfl rfl rfl) fun g2 h O=>?_|refine O.iw (ak (l:=[nS,nS,nS,nS]) rfl rfl rfl) fun g2 h O=>?_);refine gH ?_
 refine O.stC 4 (.head _) [((aw 4 ai) r1.nodes),((aw 1 Value.string) r1.names),((aw 3 aN) r1.mems),((aw 1 i64) r1.outs)] fun h O=>?_;refine gX ?_
 refine ldA (O.at (.head _)) ?_;refine gH ?_
 refine ca (gO hm O.has) fun r4 hm=>?_;refine gX ?_
 refine ldA (O.at (.head _)) ?_;refine gH ?_
 refine ca (cV hm O.has) fun r5 hm=>?_;refine gX ?_
 refine ldA (O.at (.head _)) ?_;refine gH ?_
 refine ca (kA hm O.has) fun r6 hm=>?_;refine gH ?_
 apply Cs;conv=>whnf
 refine jn hm 287 [6,7,9] (fun s=>s) (fun v7 h=>Own vars h0 [] h) (fun v7=>[(54,(.bool v7))]) (fun hm=>?_) ?_
 ·refine gX ?_
  refine br hm (fun hm=>?_) fun hm=>?_
  ·refine gX ?_
   refine bt ?_;refine gH ?_
   refine bt ?_;refine gH ?_
   exact jx true hm (O.sel [] (by decide))
  ·refine gX ?_
   refine br hm (fun hm=>?_) fun hm=>?_
   ·refine gX ?_
    refine bt ?_;refine gH ?_
    exact jx true hm (O.sel [] (by decide))
   ·refine gX ?_
    refine lmC ?_;refine gH ?_
    refine br hm (fun hm=>?_) fun hm=>?_
    ·refine gX ?_
     exact jx true hm (O.sel [] (by decide))
    ·refine gX ?_
     refine cpC ?_;refine gH ?_
     refine lmC ?_;refine gH ?_
     exact jx (neN r5.1.length r5.1.length) hm (O.sel [] (by decide))
 ·clear hm;rintro v7 base h hm O
  refine gX ?_
  refine br hm (fun hm=>?_) fun hm=>?_
  ·refine gX ?_
   exact fe hm O
  ·refine gX ?_
   refine O.mkL (enc:=i64) 8 1 0 hm fun g9 h O hm=>?_;refine gX ?_
   refine O.mkL (enc:=i64) 8 1 0 hm fun g11 h O hm=>?_;refine gH ?_
   apply Cs;conv=>whnf
   apply Cs;refine gH ?_
   refine jn hm 287 [6,11,12] (fun s=>s) (fun (v13,v14) h=>Own vars h0 [(sC g9 (flatC (v13.map i64))),(sC g11 (flatC (v14.map i64)))] h) (fun (v13,v14)=>[]) (fun hm=>?_) ?_
   ·refine gX ?_
    refine lw 287 [6,7,9,11,12] (σ:=((List Nat)×(List Nat)×Int×Nat)) (fun s=>s) (fun (v16,v17,v18,v19) h=>Own vars h0 [(sC g9 (flatC (v16.map i64))),(sC g11 (flatC (v17.map i64)))] h) (fun (v16,v17,v18,v19)=>[(13,(z64 v18)),(14,(i64 v19))]) ((List.replicate r4.length (0:Nat)),(List.replicate r4.length (0:Nat)),(Int.negSucc 0),0) hm (O.sel [1,0] (by decide)) ?_
    clear hm;rintro⟨v16,v17,v18,v19⟩ nx20 base h hm O
    refine gX ?_
    refine lmC ?_;refine gX ?_
    refine br hm (fun hm=>?_) fun hm=>?_
    ·apply Cs;conv=>whnf
     refine jn hm 287 [6,7,9,11,12,14] (fun s=>s) (fun (v21,v22,v23) h=>Own vars h0 [(sC g9 (flatC (v21.map i64))),(sC g11 (flatC (v22.map i64)))] h) (fun (v21,v22,v23)=>[(13,(i64 v23))]) (fun hm=>?_) ?_
     ·apply Cs;conv=>whnf
      apply Cs;conv=>whnf
      refine jn hm 287 [6,7,9,11,12,14] (fun s=>s) (fun v25 h=>Own vars h0 [(sC g9 (flatC (v16.map i64))),(sC g11 (flatC (v17.map i64)))] h) (fun v25=>[(122,(.bool v25))]) (fun hm=>?_) ?_
      ·refine gX ?_
       refine atC hm fun x27 hx27 hm=>?_;refine gH ?_
       refine dF ?_
       refine gX ?_
       refine lmC ?_;refine gH ?_
       refine br hm (fun hm=>?_) fun hm=>?_
       ·refine gX ?_
        refine bt ?_;refine gH ?_
        refine bt ?_;refine gH ?_
        refine bt ?_;refine gH ?_
        exact jx true hm O
       ·refine gX ?_
        refine atC hm fun x28 hx28 hm=>?_;refine gH ?_
        refine dF ?_
        refine gX ?_
        refine cpC ?_;refine gH ?_
        refine atC hm fun x29 hx29 hm=>?_;refine gH ?_
        refine dF ?_
        refine gX ?_
        refine lmC ?_;refine gH ?_
        refine br hm (fun hm=>?_) fun hm=>?_
        ·refine gX ?_
         refine bt ?_;refine gH ?_
         refine bt ?_;refine gH ?_
         exact jx true hm O
        ·refine gX ?_
         refine atC hm fun x30 hx30 hm=>?_;refine gH ?_
         refine dF ?_
         refine gX ?_
         refine atC hm fun x31 hx31 hm=>?_;refine gH ?_
         refine br hm (fun hm=>?_) fun hm=>?_
         ·refine gX ?_
          refine bt ?_;refine gH ?_
          exact jx true hm O
         ·refine gX ?_
          refine atC hm fun x32 hx32 hm=>?_;refine gH ?_
          refine dF ?_
          refine gX ?_
          refine atC hm fun x33 hx33 hm=>?_;refine gH ?_
          refine br hm (fun hm=>?_) fun hm=>?_
          ·refine gX ?_
           exact jx true hm O
          ·refine gX ?_
           refine atF hm fun x34 hx34 hm=>?_;refine gH ?_
           refine dF ?_
           refine gX ?_
           refine atC hm fun x35 hx35 hm=>?_;refine gH ?_
           refine dF ?_
           refine gX ?_
           refine atC hm fun x36 hx36 hm=>?_;refine gH ?_
           refine atF hm fun x37 hx37 hm=>?_;refine gH ?_
           refine dF ?_
           refine gX ?_
           refine⟨.bool (!((eqN x34.model x37.model)&&(((eqN x34.line.node x37.line.node)&&((eqZ x34.line.pin x37.line.pin)&&true))&&((eqN x34.value x37.value)&&((eqN x34.other x37.other)&&true))))),by kernel_rfl,?_⟩;refine gH ?_
           exact jx (!((eqN x34.model x37.model)&&(((eqN x34.line.node x37.line.node)&&((eqZ x34.line.pin x37.line.pin)&&true))&&((eqN x34.value x37.value)&&((eqN x34.other x37.other)&&true))))) hm O
      ·clear hm;rintro v25 base h hm O
       refine gX ?_
       refine br hm (fun hm=>?_) fun hm=>?_
       ·refine gX ?_
        exact fe hm O
       ·refine gX ?_
        refine atC hm fun x38 hx38 hm=>?_;refine gH ?_
        refine atC hm fun x39 hx39 hm=>?_;refine gX ?_
        refine lw 287 [6,7,9,11,12,13,14] (σ:=((List Nat)×(List Nat)×Nat)) (fun s=>s) (fun (v40,v41,v42) h=>Own vars h0 [(sC g9 (flatC (v40.map i64))),(sC g11 (flatC (v41.map i64)))] h) (fun (v40,v41,v42)=>[(15,(i64 v42))]) (v16,v17,0) hm O ?_
        clear hm;rintro⟨v40,v41,v42⟩ nx43 base h hm O
        refine gX ?_
        refine atC hm fun x44 hx44 hm=>?_;refine gH ?_
        refine lmC ?_;refine gX ?_
        refine br hm (fun hm=>?_) fun hm=>?_
        ·apply Cs;conv=>whnf
         apply Cs;conv=>whnf
         apply Cs;conv=>whnf
         apply Cs;conv=>whnf
         refine jn hm 287 [6,7,9,11,12,13,14,15] (fun s=>s) (fun v45 h=>Own vars h0 [(sC g9 (flatC (v40.map i64))),(sC g11 (flatC (v41.map i64)))] h) (fun v45=>[(179,(.bool v45))]) (fun hm=>?_) ?_
         ·refine gX ?_
          refine atC hm fun x47 hx47 hm=>?_;refine gH ?_
          refine dF ?_
          refine gX ?_
          refine atC hm fun x48 hx48 hm=>?_;refine gH ?_
          refine br hm (fun hm=>?_) fun hm=>?_
          ·refine gX ?_
           refine bt ?_;refine gH ?_
           exact jx true hm O
          ·refine gX ?_
           refine atC hm fun x49 hx49 hm=>?_;refine gH ?_
           refine dF ?_
           refine gX ?_
           refine atC hm fun x50 hx50 hm=>?_;refine gH ?_
           refine br hm (fun hm=>?_) fun hm=>?_
           ·refine gX ?_
            exact jx true hm O
           ·refine gX ?_
            refine br hm (fun hm=>?_) fun hm=>?_
            ·refine gX ?_
             refine atC hm fun x51 hx51 hm=>?_;refine gH ?_
             refine dF ?_
             refine gX ?_
             refine atC hm fun x52 hx52 hm=>?_;refine gH ?_
             refine atC hm fun x53 hx53 hm=>?_;refine gH ?_
             refine dF ?_
             refine gX ?_
             refine pT hm fun hm=>?_;refine gH ?_
             refine atC hm fun x54 hx54 hm=>?_;refine gH ?_
             exact jx (!ltN x54 x52) hm O
            ·refine gX ?_
             exact jx false hm O
         ·clear hm;rintro v45 base h hm O
          refine gX ?_
          refine br hm (fun hm=>?_) fun hm=>?_
          ·refine gX ?_
           exact fe hm O
          ·refine gX ?_
           refine atC hm fun x55 hx55 hm=>?_;refine gH ?_
           refine atC hm fun x56 hx56 hm=>?_;refine gH ?_
           refine ix 1 hm fun x57 hx57 hm=>?_;refine gH ?_
           refine ldE (s:=1) (i:=0) (O.at (.head _)) hx57 ?_;refine gH ?_
           refine bm hm fun hm=>?_;refine gH ?_
           refine ix 1 hm fun x58 hx58 hm=>?_;refine gH ?_
           refine O.stE 1 (.head _) hx58 (x57+1) fun h O=>?_;refine gX ?_
           refine atC hm fun x59 hx59 hm=>?_;refine gH ?_
           refine atC hm fun x60 hx60 hm=>?_;refine gH ?_
           refine ix 1 hm fun x61 hx61 hm=>?_;refine gH ?_
           refine O.stE 1 (.tail _ (.head _)) hx61 v19 fun h O=>?_;refine gH ?_
           refine jn hm 287 [6,7,9,11,12,13,14,15] (fun s=>s) (fun v62 h=>Own vars h0 [(sC g9 (flatC ((v40.set x56 (x57+1)).map i64))),(sC g11 (flatC ((v41.set x60 v19).map i64)))] h) (fun v62=>[(249,(.bool v62))]) (fun hm=>?_) ?_
           ·refine gX ?_
            refine atC hm fun x64 hx64 hm=>?_;refine gH ?_
            refine dF ?_
            refine gX ?_
            refine atC hm fun x65 hx65 hm=>?_;refine gH ?_
            refine atF hm fun x66 hx66 hm=>?_;refine gH ?_
            refine br hm (fun hm=>?_) fun hm=>?_
            ·refine gX ?_
             refine atC hm fun x67 hx67 hm=>?_;refine gH ?_
             refine dF ?_
             refine gX ?_
             refine atC hm fun x68 hx68 hm=>?_;refine gH ?_
             refine atF hm fun x69 hx69 hm=>?_;refine gH ?_
             refine dF ?_
             refine gX ?_
             refine atF hm fun x70 hx70 hm=>?_;refine gH ?_
             refine dF ?_
             refine gX ?_
             refine⟨.bool (!((eqN x69.model x70.model)&&(((eqN x69.line.node x70.line.node)&&((eqZ x69.line.pin x70.line.pin)&&true))&&((eqN x69.value x70.value)&&((eqN x69.other x70.other)&&true))))),by kernel_rfl,?_⟩;refine gH ?_
             refine br hm (fun hm=>?_) fun hm=>?_
             ·refine gX ?_
              exact jx true hm O
             ·refine gX ?_
              refine atF hm fun x71 hx71 hm=>?_;refine gH ?_
              refine atC hm fun x72 hx72 hm=>?_;refine gH ?_
              refine dF ?_
              refine gX ?_
              refine atC hm fun x73 hx73 hm=>?_;refine gH ?_
              refine atF hm fun x74 hx74 hm=>?_;refine gH ?_
              exact jx (neN x71.model x74.model) hm O
            ·refine gX ?_
             refine bf ?_;refine gH ?_
             refine atF hm fun x75 hx75 hm=>?_;refine gH ?_
             refine atC hm fun x76 hx76 hm=>?_;refine gH ?_
             refine dF ?_
             refine gX ?_
             refine atC hm fun x77 hx77 hm=>?_;refine gH ?_
             refine atF hm fun x78 hx78 hm=>?_;refine gH ?_
             exact jx (neN x75.model x78.model) hm O
           ·clear hm;rintro v62 base h hm O
            refine gX ?_
            refine br hm (fun hm=>?_) fun hm=>?_
            ·refine gX ?_
             exact fe hm O
            ·refine gX ?_
             refine bm hm fun hm=>?_;refine gH ?_
             exact jx ((v40.set x56 (x57+1)),(v41.set x60 v19),(v42+1)) hm O
        ·refine gX ?_
         exact jx (v40,v41,x39) hm O
     ·clear hm;rintro⟨v21,v22,v23⟩ base h hm O
      refine gX ?_
      refine bm hm fun hm=>?_;refine gH ?_
      exact jx (v21,v22,v23,(v19+1)) hm O
    ·refine gX ?_
     exact jx (v16,v17) hm O
   ·clear hm;rintro⟨v13,v14⟩ base h hm O
    conv=>whnf
    refine jn hm 287 [] (fun s=>s) (fun _ h=>Own vars h0 [] h) (fun _=>[]) (fun hm=>?_) ?_
    ·refine gX ?_
     refine lw 287 [6,11,12] (σ:=Nat) (fun s=>s) (fun v80 h=>Own vars h0 [(sC g9 (flatC (v13.map i64))),(sC g11 (flatC (v14.map i64)))] h) (fun v80=>[(16,(i64 v80))]) 0 hm O ?_
     clear hm;rintro v80 nx81 base h hm O
     refine gX ?_
     refine br hm (fun hm=>?_) fun hm=>?_
     ·apply Cs;conv=>whnf
      apply Cs;conv=>whnf
      apply Cs;conv=>whnf
      refine jn hm 287 [6,11,12,16] (fun s=>s) (fun _ h=>Own vars h0 [(sC g9 (flatC (v13.map i64))),(sC g11 (flatC (v14.map i64)))] h) (fun _=>[]) (fun hm=>?_) ?_
      ·refine gX ?_
       refine lw 287 [6,11,12,16] (σ:=Nat) (fun s=>s) (fun v83 h=>Own vars h0 [(sC g9 (flatC (v13.map i64))),(sC g11 (flatC (v14.map i64)))] h) (fun v83=>[(17,(i64 v83))]) 0 hm O ?_
       clear hm;rintro v83 nx84 base h hm O
       refine gX ?_
       refine br hm (fun hm=>?_) fun hm=>?_
       ·apply Cs;conv=>whnf
        apply Cs;conv=>whnf
        apply Cs;conv=>whnf
        refine jn hm 287 [6,11,12,16,17] (fun s=>s) (fun v85 h=>Own vars h0 [(sC g9 (flatC (v13.map i64))),(sC g11 (flatC (v14.map i64)))] h) (fun v85=>[(280,(.bool v85))]) (fun hm=>?_) ?_
        ·refine gX ?_
         refine atF hm fun x87 hx87 hm=>?_;refine gH ?_
         refine dF ?_
         refine gX ?_
         refine atF hm fun x88 hx88 hm=>?_;refine gH ?_
         refine dF ?_
         refine gX ?_
         refine⟨.bool ((eqN x87.model x88.model)&&(((eqN x87.line.node x88.line.node)&&((eqZ x87.line.pin x88.line.pin)&&true))&&((eqN x87.value x88.value)&&((eqN x87.other x88.other)&&true)))),by kernel_rfl,?_⟩;refine gH ?_
         refine br hm (fun hm=>?_) fun hm=>?_
         ·refine gX ?_
          refine ix 1 hm fun x89 hx89 hm=>?_;refine gH ?_
          refine⟨_,av rfl (O.at (.tail _ (.head _))) rfl (eX (enc:=i64) (s:=1) (k:=0) (fun _=>rfl) hx89 rfl),?_⟩;refine gH ?_
          refine ix 1 hm fun x90 hx90 hm=>?_;refine gH ?_
          refine⟨_,av rfl (O.at (.tail _ (.head _))) rfl (eX (enc:=i64) (s:=1) (k:=0) (fun _=>rfl) hx90 rfl),?_⟩;refine gH ?_
          exact jx (neN x89 x90) hm O
         ·refine gX ?_
          exact jx false hm O
        ·clear hm;rintro v85 base h hm O
         refine gX ?_
         refine br hm (fun hm=>?_) fun hm=>?_
         ·refine gX ?_
          exact fe hm O
         ·refine gX ?_
          refine bm hm fun hm=>?_;refine gH ?_
          exact jx (v83+1) hm O
       ·refine gX ?_
        exact jx () hm O
      ·clear hm;rintro _ base h hm O
       refine gX ?_
       refine ix 1 hm fun x91 hx91 hm=>?_;refine gH ?_
       refine ldE (s:=1) (i:=0) (O.at (.head _)) hx91 ?_;refine gX ?_
       refine br hm (fun hm=>?_) fun hm=>?_
       ·refine gX ?_
        exact fe hm O
       ·refine gX ?_
        refine bm hm fun hm=>?_;refine gH ?_
        exact jx (v80+1) hm O
     ·refine gX ?_
      exact jx () hm (O.sel [] (by decide))
    ·clear hm;rintro _ base h hm O
     refine gX ?_
     refine ca (gA hm O.has) fun r92 hm=>?_;refine gX ?_
     exact fe hm O
def RtN (ps:List Nat):Nat->Nat->Nat->Prop
 |0,i,r=>ps[i]?=some i/\i=r
 |n+1,i,r=>∃ j,ps[i]?=some j/\j≠i/\RtN ps n j r
theorem RtN.uniq {ps:List Nat}:∀ {n i r m s},RtN ps n i r->RtN ps m i s->n=m/\r=s
 |0,i,r,0,s,h,g=>⟨rfl,h.2.symm.trans g.2⟩
 |0,i,r,m+1,s,h,g=>by
  obtain⟨j,g1,g2,_⟩:=g
  rw[h.1] at g1;exact absurd (Option.some.inj g1).symm g2
 |n+1,i,r,0,s,h,g=>by
  obtain⟨j,g1,g2,_⟩:=h
  rw[g.1] at g1;exact absurd (Option.some.inj g1).symm g2
 |n+1,i,r,m+1,s,h,g=>by
  obtain⟨j,h1,_,h3⟩:=h
  obtain⟨k,g1,_,g3⟩:=g
  rw[h1] at g1;cases g1
  obtain⟨rfl,rfl⟩:=RtN.uniq h3 g3
  exact⟨rfl,rfl⟩
theorem RtN.root {ps:List Nat}:∀ {n i r},RtN ps n i r->ps[r]?=some r
 |0,_,_,h=>h.2 ▸ h.1
 |_+1,_,_,⟨_,_,_,h⟩=>RtN.root h
theorem RtN.sF {ps:List Nat}{i j k:Nat} (hi:ps[i]?=some j) (hj:ps[j]?=some k) (hne:j≠i):∀ {n x r},RtN ps n x r->∃ m,m<=n/\RtN (ps.set i k) m x r:=by
 have hlt:i<ps.length:=(List.getElem?_eq_some_iff.1 hi).1
 intro n
 induction n using Nat.strongRecOn with
 |_ n ih =>
  intro x r h
  match n,h with
  |0,h =>
   refine⟨0,Nat.le_refl _,?_,h.2⟩
   rw[List.getElem?_set_ne,h.1]
   rintro rfl
   rw[h.1] at hi;exact hne (Option.some.inj hi).symm
  |n+1,⟨y,h1,h2,h3⟩ =>
   by_cases c:i=x
   ·subst c
    rw[hi] at h1;cases h1
    match n,h3 with
    |0,h3 =>
     rw[h3.1] at hj;cases hj
     obtain⟨m,_,hm⟩:=ih 0 (by omega) h3
     obtain⟨rfl,e⟩:m=0/\r=r:=by
      refine⟨?_,rfl⟩
      omega
     exact⟨1,by omega,j,by rw[List.getElem?_set_self hlt],hne,hm⟩
    |n+1,⟨k',g1,g2,g3⟩ =>
     rw[hj] at g1;cases g1
     have hk:k≠i:=by
      rintro rfl
      have:=(RtN.uniq g3 (show RtN ps (n+2) k r from⟨j,hi,hne,k,hj,g2,g3⟩)).1
      omega
     obtain⟨m,hm1,hm⟩:=ih n (by omega) g3
     exact⟨m+1,by omega,k,by rw[List.getElem?_set_self hlt],hk,hm⟩
   ·obtain⟨m,hm1,hm⟩:=ih n (by omega) h3
    exact⟨m+1,by omega,y,by rw[List.getElem?_set_ne c,h1],h2,hm⟩
def Rt (ps:List Nat) (i r:Nat):Prop:=∃ n,RtN ps n i r
theorem Rt.uniq {ps:List Nat}{i r s:Nat} (h:Rt ps i r) (g:Rt ps i s):r=s:=by
 obtain⟨n,h⟩:=h
 obtain⟨m,g⟩:=g
 exact (RtN.uniq h g).2
theorem Rt.root {ps:List Nat}{i r:Nat} (h:Rt ps i r):ps[r]?=some r:=by
 obtain⟨n,h⟩:=h
 exact h.root
theorem Rt.self {ps:List Nat}{r:Nat} (h:ps[r]?=some r):Rt ps r r:=⟨0,h,rfl⟩
theorem Rt.lt {ps:List Nat}{i r:Nat} (h:Rt ps i r):r<ps.length:=(List.getElem?_eq_some_iff.1 h.root).1
theorem Rt.lt1 {ps:List Nat}{i r:Nat}:Rt ps i r->i<ps.length
 |⟨0,h⟩=>(List.getElem?_eq_some_iff.1 h.1).1
 |⟨_+1,_,h,_⟩=>(List.getElem?_eq_some_iff.1 h).1
def Fo (ps:List Nat):Prop:=∀ i,i<ps.length->∃ r,Rt ps i r
structure SameR (ps qs:List Nat):Prop where
 len:qs.length=ps.length
 rt:∀ i r,Rt ps i r->Rt qs i r
theorem SameR.refl (ps:List Nat):SameR ps ps:=⟨rfl,fun _ _ h=>h⟩
theorem SameR.trans {a b d:List Nat} (h:SameR a b) (g:SameR b d):SameR a d:=⟨g.len.trans h.len,fun i r q=>g.rt i r (h.rt i r q)⟩
theorem SameR.fo {ps qs:List Nat} (h:SameR ps qs) (F:Fo ps):Fo qs:=fun i hi=>by
 obtain⟨r,hr⟩:=F i (h.len ▸ hi)
 exact⟨r,h.rt i r hr⟩
theorem SameR.back {ps qs:List Nat} (h:SameR ps qs) (F:Fo ps) {i r:Nat} (g:Rt qs i r):Rt ps i r:=by
 obtain⟨s,hs⟩:=F i (h.len ▸ g.lt1)
 have:=(h.rt i s hs).uniq g
 exact this ▸ hs
theorem SameR.sF {ps:List Nat}{i j k:Nat} (hi:ps[i]?=some j) (hj:ps[j]?=some k) (hne:j≠i):SameR ps (ps.set i k) :=
 ⟨List.length_set ..,fun x r ⟨n,h⟩=>by
  obtain⟨m,_,hm⟩:=RtN.sF hi hj hne h
  exact⟨m,hm⟩⟩
theorem RtN.link {ps:List Nat}{a b:Nat} (ha:ps[a]?=some a) (hb:ps[b]?=some b) (hne:a≠b):∀ {n i r},RtN ps n i r->Rt (ps.set a b) i (if r=a then b else r)
 |0,i,r,h=>by
  obtain⟨h1,rfl⟩:=h
  have hl:a<ps.length:=(List.getElem?_eq_some_iff.1 ha).1
  by_cases c:i=a
  ·subst c
   rw[if_pos rfl]
   exact⟨1,b,by rw[List.getElem?_set_self hl],fun e=>hne e.symm,by rw[List.getElem?_set_ne hne,hb],rfl⟩
  ·rw[if_neg c]
   exact Rt.self (by rw[List.getElem?_set_ne (fun e=>c e.symm),h1])
 |n+1,i,r,⟨j,h1,h2,h3⟩=>by
  obtain⟨m,hm⟩:=RtN.link ha hb hne h3
  have c:a≠i:=by
   rintro rfl
   rw[ha] at h1;exact h2 (Option.some.inj h1).symm
  exact⟨m+1,j,by rw[List.getElem?_set_ne c,h1],h2,hm⟩
theorem Rt.link {ps:List Nat}{a b:Nat} (ha:ps[a]?=some a) (hb:ps[b]?=some b) {i r:Nat} (h:Rt ps i r):Rt (ps.set a b) i (if r=a then b else r):=by
 by_cases c:a=b
 ·subst c
  have hl:a<ps.length:=(List.getElem?_eq_some_iff.1 ha).1
  have e:ps.set a a=ps:=by
   apply List.ext_getElem?
   intro j
   by_cases q:a=j
   ·subst q;rw[List.getElem?_set_self hl,ha]
   ·rw[List.getElem?_set_ne q]
  rw[e]
  split
  ·rename_i q;exact q ▸ h
  ·exact h
 ·obtain⟨n,h⟩:=h
  exact h.link ha hb c
inductive Cn {α:Type} (E:α->α->Prop):α->α->Prop
 |refl (a:α):Cn E a a
 |fwd {a b d:α}:E a b->Cn E b d->Cn E a d
 |bwd {a b d:α}:E b a->Cn E b d->Cn E a d
theorem Cn.trans {α:Type}{E:α->α->Prop}{a b d:α} (h:Cn E a b) (g:Cn E b d):Cn E a d:=by
 induction h with
 |refl=>exact g
 |fwd e _ ih=>exact .fwd e (ih g)
 |bwd e _ ih=>exact .bwd e (ih g)
theorem Cn.one {α:Type}{E:α->α->Prop}{a b:α} (h:E a b):Cn E a b:=.fwd h (.refl _)
theorem Cn.symm {α:Type}{E:α->α->Prop}{a b:α} (h:Cn E a b):Cn E b a:=by
 induction h with
 |refl=>exact .refl _
 |fwd e _ ih=>exact ih.trans (.bwd e (.refl _))
 |bwd e _ ih=>exact ih.trans (.fwd e (.refl _))
theorem Cn.mono {α:Type}{E F:α->α->Prop} (hE:∀ a b,E a b->F a b) {a b:α} (h:Cn E a b):Cn F a b:=by
 induction h with
 |refl=>exact .refl _
 |fwd e _ ih=>exact .fwd (hE _ _ e) ih
 |bwd e _ ih=>exact .bwd (hE _ _ e) ih
theorem Cn.inv {α β:Type}{E:α->α->Prop}{f:α->β} (hE:∀ a b,E a b->f a=f b) {a b:α} (h:Cn E a b):f a=f b:=by
 induction h with
 |refl=>rfl
 |fwd e _ ih=>exact (hE _ _ e).trans ih
 |bwd e _ ih=>exact (hE _ _ e).symm.trans ih
theorem Cn.add {α:Type}{E:α->α->Prop}{x y a b:α} (h:Cn (fun u v=>E u v\/u=x/\v=y) a b):Cn E a b\/(Cn E a x\/Cn E a y)/\(Cn E b x\/Cn E b y):=by
 induction h with
 |refl=>exact .inl (.refl _)
 |fwd e _ ih =>
  rcases e with e|⟨rfl,rfl⟩
  ·rcases ih with ih|⟨h1,h2⟩
   ·exact .inl (.fwd e ih)
   ·exact .inr ⟨h1.imp (.fwd e) (.fwd e),h2⟩
  ·rcases ih with ih|⟨h1,h2⟩
   ·exact .inr ⟨.inl (.refl _),.inr ih.symm⟩
   ·exact .inr ⟨.inl (.refl _),h2⟩
 |bwd e _ ih =>
  rcases e with e|⟨rfl,rfl⟩
  ·rcases ih with ih|⟨h1,h2⟩
   ·exact .inl (.bwd e ih)
   ·exact .inr ⟨h1.imp (.bwd e) (.bwd e),h2⟩
  ·rcases ih with ih|⟨h1,h2⟩
   ·exact .inr ⟨.inr (.refl _),.inl ih.symm⟩
   ·exact .inr ⟨.inr (.refl _),h2⟩
structure UfI {α:Type} (V:α->Prop) (num:α->Nat) (E:α->α->Prop) (ps:List Nat) (np:Nat):Prop where
 len:ps.length=np
 fo:Fo ps
 lt:∀ a,V a->num a<np
 cn:∀ a b r s,V a->V b->Rt ps (num a) r->Rt ps (num b) s->(r=s↔Cn E a b)
theorem UfI.same {α:Type}{V:α->Prop}{num:α->Nat}{E:α->α->Prop}{ps qs:List Nat}{np:Nat} (U:UfI V num E ps np) (h:SameR ps qs):UfI V num E qs np :=
 ⟨h.len.trans U.len,h.fo U.fo,U.lt,fun a b r s ha hb h1 h2=>U.cn a b r s ha hb (h.back U.fo h1) (h.back U.fo h2)⟩
theorem UfI.join {α:Type}{V:α->Prop}{num:α->Nat}{E:α->α->Prop}{ps:List Nat}{np:Nat} (U:UfI V num E ps np) {x y:α} (hx:V x) (hy:V y) {rx ry:Nat} (h1:Rt ps (num x) rx) (h2:Rt ps (num y) ry) :
  UfI V num (fun u v=>E u v\/u=x/\v=y) (ps.set rx ry) np:=by
 have R:=@Rt.link ps rx ry h1.root h2.root
 refine⟨(List.length_set ..).trans U.len,fun i hi=>?_,U.lt,fun a b r s ha hb g1 g2=>?_⟩
 ·rw[List.length_set] at hi
  obtain⟨r,hr⟩:=U.fo i hi
  exact⟨_,R hr⟩
 ·obtain⟨r0,hr0⟩:=U.fo (num a) (U.len ▸ U.lt a ha)
  obtain⟨s0,hs0⟩:=U.fo (num b) (U.len ▸ U.lt b hb)
  have e1:=g1.uniq (R hr0)
  have e2:=g2.uniq (R hs0)
  have hE:∀ u v,Cn E u v->Cn (fun u v=>E u v\/u=x/\v=y) u v:=fun u v h=>h.mono fun _ _ h=>.inl h
  have hxy:Cn (fun u v=>E u v\/u=x/\v=y) x y:=.one (.inr ⟨rfl,rfl⟩)
  have ax:=U.cn a x r0 rx ha hx hr0 h1
  have ay:=U.cn a y r0 ry ha hy hr0 h2
  have bx:=U.cn b x s0 rx hb hx hs0 h1
  have by_:=U.cn b y s0 ry hb hy hs0 h2
  have ab:=U.cn a b r0 s0 ha hb hr0 hs0
  constructor
  ·intro e
   rw[e1,e2] at e
   by_cases c1:r0=rx
   ·by_cases c2:s0=rx
    ·exact hE _ _ (ab.1 (c1.trans c2.symm))
    ·rw[if_pos c1,if_neg c2] at e
     exact (hE _ _ (ax.1 c1)).trans (hxy.trans (hE _ _ (by_.1 e.symm)).symm)
   ·by_cases c2:s0=rx
    ·rw[if_neg c1,if_pos c2] at e
     exact (hE _ _ (ay.1 e)).trans (hxy.symm.trans (hE _ _ (bx.1 c2)).symm)
    ·rw[if_neg c1,if_neg c2] at e
     exact hE _ _ (ab.1 e)
  ·intro h
   rw[e1,e2]
   rcases h.add with h|⟨h1,h2⟩
   ·rw[ab.2 h]
   ·have key:∀ (z z0:Nat),(z=rx\/z=ry)->(if z=rx then ry else z)=ry:=by
     intro z _ h
     rcases h with rfl|rfl
     ·rw[if_pos rfl]
     ·split <;> rfl
    rw[key r0 0 (h1.imp ax.2 ay.2),key s0 0 (h2.imp bx.2 by_.2)]
def jS {α:Type} (down:α->Option α):Nat->α->α
 |0,a=>a
 |n+1,a=>match down a with|some b=>jS down n b|none=>a
theorem rL {α:Type}{down:α->Option α}:∀ n a,Cn (fun u v=>down u=some v) a (jS down n a)
 |0,a=>.refl _
 |n+1,a=>by
  rw[jS]
  cases h:down a with
  |none=>exact .refl _
  |some b=>exact .fwd h (rL n b)
theorem qU {α:Type}{down:α->Option α}{μ:α->Nat} (hμ:∀ a b,down a=some b->μ b<μ a):∀ n a m,μ a<=n->μ a<=m->jS down n a=jS down m a
 |0,a,m,h,_=>by
  have:down a=none:=by
   cases e:down a with
   |none=>rfl
   |some b=>have:=hμ a b e;omega
  cases m with
  |zero=>rfl
  |succ m=>rw[jS,jS,this]
 |n+1,a,0,_,h=>by
  have:down a=none:=by
   cases e:down a with
   |none=>rfl
   |some b=>have:=hμ a b e;omega
  rw[jS,jS,this]
 |n+1,a,m+1,h1,h2=>by
  rw[jS,jS]
  cases e:down a with
  |none=>rfl
  |some b=>have:=hμ a b e;exact qU hμ n b m (by omega) (by omega)
theorem wu {α:Type}{down:α->Option α}{μ:α->Nat} (hμ:∀ a b,down a=some b->μ b<μ a) {N:Nat}{a b:α} (hN:μ a<=N) (h:down a=some b):jS down N a=jS down N b:=by
 have:=hμ a b h
 cases N with
 |zero=>omega
 |succ N =>
  rw[jS,h]
  exact qU hμ N b (N+1) (by omega) (by omega)
theorem AK {α:Type}{down:α->Option α}{μ:α->Nat} (hμ:∀ a b,down a=some b->μ b<μ a) {N:Nat} (hN:∀ a,μ a<=N) {a b:α}:Cn (fun u v=>down u=some v) a b↔jS down N a=jS down N b:=by
 constructor
 ·exact Cn.inv fun u v h=>wu hμ (hN u) h
 ·intro e
  have h1:=rL (down:=down) N a
  rw[e] at h1
  exact h1.trans (rL N b).symm
theorem de {α:Type}{first:(α->Prop)->Prop}{rest:α->Prop} (P:α->Prop) (h1:∀ k,(∀ a,P a->k a)->first k) (h2:∀ a,P a->rest a):al first rest:=h1 rest h2
theorem cX {α:Type}{a:α}{first:(α->Prop)->Prop}{rest:α->Prop} (h1:rest a->first rest) (h2:rest a):al first rest:=h1 h2
def Bu (e d:Nat):Nat:=if e=0 then 3 else if e=1 then min d 2 else 2
def Ap (v:Nat):Nat:=if 3<v then 2 else v
def Bz (l:List Nat):Option Nat:=l.findIdx? fun v=>v != 3
def BB (l:List Nat):Nat:=match Bz l with
 |none=>3
 |some i=>if (l.contains 0&&l.contains 1)||l.any (fun v=>Ap v==2) then 2 else l.getD i 0
def AS (k:Nat) (l:List Nat):Nat:=if k=12 then Bu (l.getD 0 0) (l.getD 1 0) else if k=13 then BB l else A6 k l
theorem yR (i:Nat):(!ltI (Int.ofNat i) (Int.ofNat 0))=true:=by
 have:ltI (Int.ofNat i) (Int.ofNat 0)=false:=uX.2 (Int.natCast_nonneg i)
 rw[this];rfl
structure GK (ks:List Nat) (x:Node):Prop where
 kind1:1<=x.kind
 kind:x.kind<=13
 arity:Arity x.kind x.ins.length
 ins:∀ k∈x.ins,k<ks.length
 bus:x.kind=13->∀ k∈x.ins,ks.getD k 0=12
 mem:x.mem=0
 bit:x.bit=0
theorem kn (ks:List Nat):∀ (i:Nat) (t:Nat),t∈cm ks i->t<i/\ks.getD t 0=12
 |0,t,h=>by unfold cm at h;cases h
 |i+1,t,h=>by
  unfold cm at h
  split at h
  ·rename_i e
   rcases List.mem_append.1 h with h|h
   ·have:=kn ks i t h;exact⟨by omega,this.2⟩
   ·rw[List.mem_singleton] at h;subst h;exact⟨by omega,e⟩
  ·have:=kn ks i t h;exact⟨by omega,this.2⟩
theorem sW {l:List Nat}{i:Nat} (h:i<l.length):l.getD i 0∈l:=by
 rw[List.getD,List.getElem?_eq_getElem h]
 exact List.getElem_mem h
theorem oa:∀ kk,kk<6->Arity (5+kk) 2/\Arity (5+kk) 3:=by decide
theorem tA (bus:Bool) (g:GData) {ks:List Nat} (hn:0<ks.length):GK ks (ft bus g ks):=by
 have ha:=Nat.mod_lt g.a hn
 have hb:=Nat.mod_lt g.b hn
 have hd:=Nat.mod_lt g.d hn
 have hkk:(if bus then g.kind%13 else g.kind%9)<13:=by
  split
  ·exact Nat.mod_lt _ (by decide)
  ·exact Nat.lt_trans (Nat.mod_lt _ (by decide)) (by decide)
 unfold ft
 generalize (if bus then g.kind%13 else g.kind%9)=kk at hkk
 by_cases c1:kk<6
 ·rw[if_pos c1]
  by_cases c2:128<=g.kind
  ·rw[if_pos c2]
   refine⟨by dsimp only;omega,by dsimp only;omega,?_,?_,fun e=>by dsimp only at e;omega,rfl,rfl⟩
   ·exact (oa kk c1).2
   ·intro k m
    simp only[List.mem_cons,List.not_mem_nil,or_false] at m
    rcases m with rfl|rfl|rfl <;> assumption
  ·rw[if_neg c2]
   refine⟨by dsimp only;omega,by dsimp only;omega,?_,?_,fun e=>by dsimp only at e;omega,rfl,rfl⟩
   ·exact (oa kk c1).1
   ·intro k m
    simp only[List.mem_cons,List.not_mem_nil,or_false] at m
    rcases m with rfl|rfl <;> assumption
 rw[if_neg c1]
 by_cases c2:kk=6
 ·rw[if_pos c2]
  exact⟨(by decide:1<=4),(by decide:4<=13),(by decide:Arity 4 1),fun k m=>by simp only[List.mem_cons,List.not_mem_nil,or_false] at m;subst m;exact ha,(fun e=>by cases e),rfl,rfl⟩
 rw[if_neg c2]
 by_cases c3:kk=7
 ·rw[if_pos c3]
  refine⟨(by decide:1<=11),(by decide:11<=13),(by decide:Arity 11 3),fun k m=>?_,(fun e=>by cases e),rfl,rfl⟩
  simp only[List.mem_cons,List.not_mem_nil,or_false] at m
  rcases m with rfl|rfl|rfl <;> assumption
 rw[if_neg c3]
 by_cases c4:kk=9\/kk=10
 ·rw[if_pos c4]
  refine⟨(by decide:1<=12),(by decide:12<=13),(by decide:Arity 12 2),fun k m=>?_,(fun e=>by cases e),rfl,rfl⟩
  simp only[List.mem_cons,List.not_mem_nil,or_false] at m
  rcases m with rfl|rfl <;> assumption
 rw[if_neg c4]
 by_cases c5:10<kk/\0<(cm ks ks.length).length
 ·rw[if_pos c5]
  have h1:=kn ks ks.length _ (sW (Nat.mod_lt g.a c5.2))
  have h2:=kn ks ks.length _ (sW (Nat.mod_lt (g.a%(cm ks ks.length).length+1) c5.2))
  by_cases c6:1<(cm ks ks.length).length
  ·rw[if_pos c6]
   refine⟨(by decide:1<=13),(by decide:13<=13),(by decide:Arity 13 2),fun k m=>?_,fun _ k m=>?_,rfl,rfl⟩ <;>
   ·simp only[List.mem_cons,List.not_mem_nil,or_false] at m
    rcases m with rfl|rfl
    ·first|exact h1.1|exact h1.2
    ·first|exact h2.1|exact h2.2
  ·rw[if_neg c6]
   refine⟨(by decide:1<=13),(by decide:13<=13),(by decide:Arity 13 1),fun k m=>?_,fun _ k m=>?_,rfl,rfl⟩ <;>
   ·simp only[List.mem_cons,List.not_mem_nil,or_false] at m
    subst m
    first|exact h1.1|exact h1.2
 rw[if_neg c5]
 by_cases c7:240<g.kind
 ·rw[if_pos c7]
  have:g.a%2=0\/g.a%2=1:=by omega
  rcases this with e|e <;> rw[e]
  ·exact⟨(by decide:1<=1),(by decide:1<=13),(by decide:Arity 1 0),(fun k m=>by cases m),(fun _ k m=>by cases m),rfl,rfl⟩
  ·exact⟨(by decide:1<=2),(by decide:2<=13),(by decide:Arity 2 0),(fun k m=>by cases m),(fun _ k m=>by cases m),rfl,rfl⟩
 ·rw[if_neg c7]
  exact⟨(by decide:1<=3),(by decide:3<=13),(by decide:Arity 3 1),fun k m=>by simp only[List.mem_cons,List.not_mem_nil,or_false] at m;subst m;exact ha,(fun e=>by cases e),rfl,rfl⟩
theorem nq (bus:Bool) (gs:List GData) (base:List Node) (hb:0<base.length):∀ m,m<=gs.length->∀ (i:Nat) (y:Node),(dr bus gs base m)[i]?=some y ->
  (i<base.length/\base[i]?=some y)\/(base.length<=i/\∃ g,y=ft bus g (((dr bus gs base m).take i).map Node.kind))
 |0,_,i,y,h=>.inl ⟨ag h,h⟩
 |m+1,hm,i,y,h=>by
  have hg:gs[m]?=some gs[m]:=List.getElem?_eq_getElem (by omega)
  have hl:=dP bus gs base m (by omega)
  rw[kf hg] at h ⊢
  by_cases c:i<(dr bus gs base m).length
  ·rw[List.getElem?_append_left c] at h
   rcases nq bus gs base hb m (by omega) i y h with q|⟨q1,g,q2⟩
   ·exact .inl q
   ·refine .inr ⟨q1,g,?_⟩
    rw[List.take_append_of_le_length (by omega)]
    exact q2
  ·have hi:i=(dr bus gs base m).length:=by
    have:=ag h
    rw[List.length_append,List.length_singleton] at this
    omega
   subst hi
   rw[List.getElem?_append_right (Nat.le_refl _),Nat.sub_self] at h
   cases h
   refine .inr ⟨by omega,gs[m],?_⟩
   rw[List.take_left']
   rfl
theorem qY {first:Nat}{d:Nat->Nat}{ns:List Node}{j:Nat}:∀ {m},j<m->first+m<=ns.length->(kB first d m ns)[first+j]?=some (lY (d j))
 |m+1,h,hl=>by
  rw[kB,List.getElem?_set]
  by_cases c:m=j
  ·subst c
   rw[if_pos rfl,if_pos (by rw[gN];omega)]
  ·rw[if_neg (by omega)]
   exact qY (by omega) (by omega)
theorem oI {first:Nat}{d:Nat->Nat}{ns:List Node}{j:Nat} (h:j<first):∀ m,(kB first d m ns)[j]?=ns[j]?
 |0=>rfl
 |m+1=>by rw[kB,List.getElem?_set_ne (by omega)];exact oI h m
def Aw (x:CData) (_i:Nat) (y:Node):Prop:=x.mem=true/\(y=vD 0\/y=vD 1)
theorem oM {x:CData}{i:Nat}{y:Node} (h:(fh x).nodes[i]?=some y) :
  (i<x.inp%4+1/\y=eN)\/(x.inp%4+1<=i/\i<x.inp%4+1+x.dffs%3/\∃ d,d<(cp x).length/\y=lY d)\/Aw x i y \/
  (x.inp%4+1+x.dffs%3<=i/\(cp x)[i]?=some y/\∃ g,y=ft x.bus g (((cp x).take i).map Node.kind)):=by
 have h:(kB (x.inp%4+1) (kN x (cp x).length) (x.dffs%3) (cp x))[i]?=some y:=h
 have hbl:=eG x.inp x.dffs x.mem
 have hrl:=gL x
 have hbase:∀ i,i<x.inp%4+1->(eo x.inp x.dffs x.mem)[i]?=some eN:=fun i hi=>by
  unfold eo
  rw[List.append_assoc,List.getElem?_append_left (by rw[List.length_replicate];exact hi),List.getElem?_replicate,if_pos hi]
 by_cases c1:i<x.inp%4+1
 ·rw[oI c1] at h
  unfold cp at h
  rw[ln _ _ _ (by omega) _ (Nat.min_le_left _ _),hbase i c1] at h
  cases h
  exact .inl ⟨c1,rfl⟩
 ·by_cases c2:i<x.inp%4+1+x.dffs%3
  ·have e:i=x.inp%4+1+(i-(x.inp%4+1)):=by omega
   rw[e,qY (by omega) (by omega)] at h
   cases h
   exact .inr (.inl ⟨by omega,c2,_,Nat.mod_lt _ (mD x),rfl⟩)
  ·rw[lH (by omega)] at h
   rcases nq x.bus x.gates (eo x.inp x.dffs x.mem) (by omega) _ (Nat.min_le_left _ 8) i y h with⟨q,e⟩|⟨_,g,q⟩
   ·refine .inr (.inr (.inl ?_))
    unfold eo at e
    rw[List.getElem?_append_right (by simp only[List.length_append,List.length_replicate];omega)] at e
    cases hm:x.mem
    ·rw[hm] at e;simp at e
    ·rw[hm] at e
     simp only[if_true] at e
     refine⟨hm,?_⟩
     have hme:=List.mem_of_getElem? e
     simpa using hme
   ·exact .inr (.inr (.inr ⟨by omega,h,g,q⟩))
theorem vG {x:CData} (hm:x.mem=false) {i:Nat}{y:Node} (h:(fh x).nodes[i]?=some y) :
  (i<x.inp%4+1/\y=eN)\/(x.inp%4+1<=i/\i<x.inp%4+1+x.dffs%3/\∃ d,d<(cp x).length/\y=lY d) \/
  (x.inp%4+1+x.dffs%3<=i/\(cp x)[i]?=some y/\∃ g,y=ft x.bus g (((cp x).take i).map Node.kind)):=by
 rcases oM h with q|q|q|q
 ·exact .inl q
 ·exact .inr (.inl q)
 ·have:=q.1;rw[hm] at this;cases this
 ·exact .inr (.inr q)
theorem tZ (x:CData) (k:Nat):(((fh x).nodes).map Node.kind).getD k 0=((cp x).map Node.kind).getD k 0:=by
 have hrl:=gL x
 show ((kB (x.inp%4+1) (kN x (cp x).length) (x.dffs%3) (cp x)).map Node.kind).getD k 0=_
 rw[List.getD,List.getD,List.getElem?_map,List.getElem?_map]
 by_cases c1:k<x.inp%4+1
 ·rw[oI c1]
 ·by_cases c2:k<x.inp%4+1+x.dffs%3
  ·have e:k=x.inp%4+1+(k-(x.inp%4+1)):=by omega
   rw[e,qY (by omega) (by omega),sk (by omega)]
   rfl
  ·rw[lH (by omega)]
theorem kr (x:CData):(fh x).mems=if x.mem then [⟨[x.port0%(cp x).length],[x.port1%(cp x).length,x.port2%(cp x).length],x.port3%(cp x).length⟩] else []:=rfl
theorem uj (x:CData):Good (fh x):=by
 have hle:=ve x
 have hpos:=mD x
 have hn:(fh x).nodes.length=(cp x).length:=gN _
 have node:∀ (i:Nat) (y:Node),(fh x).nodes[i]?=some y->GoodN (fh x) i y:=by
  intro i y h
  have hi:=ag h
  rw[hn] at hi
  rcases oM h with⟨_,rfl⟩|⟨_,_,d,hd,rfl⟩|⟨hm,e⟩|⟨h1,h2,g,hg⟩
  ·exact⟨(by decide:0<=15),(by decide:Arity 0 0),(fun k m=>by cases m),(fun e=>by cases e),fun _=>⟨rfl,rfl⟩,(fun e=>by cases e),fun e=>absurd e (by decide:¬ 1<=0)⟩
  ·refine⟨(by decide:14<=15),(by decide:Arity 14 1),fun k m=>?_,(fun e=>by cases e),fun _=>⟨rfl,rfl⟩,(fun e=>by cases e),fun _ e=>absurd e (by decide:¬ 14<=13)⟩
   have:k=d:=by simpa[lY] using m
   rw[hn,this];exact hd
  ·have em:=kr x
   rw[hm] at em
   simp only[if_true] at em
   rcases e with rfl|rfl
   ·exact⟨(by decide:15<=15),(by decide:Arity 15 0),(fun k m=>by cases m),(fun e=>by cases e),fun e=>absurd rfl e,fun _=>⟨_,(by rw[em];rfl),by show (0:Nat)<2;decide⟩,fun _ e=>absurd e (by decide:¬ 15<=13)⟩
   ·exact⟨(by decide:15<=15),(by decide:Arity 15 0),(fun k m=>by cases m),(fun e=>by cases e),fun e=>absurd rfl e,fun _=>⟨_,(by rw[em];rfl),by show (1:Nat)<2;decide⟩,fun _ e=>absurd e (by decide:¬ 15<=13)⟩
  ·have hks:(((cp x).take i).map Node.kind).length=i:=by rw[List.length_map,List.length_take];omega
   have G:=tA x.bus g (ks:=((cp x).take i).map Node.kind) (by omega)
   rw[<- hg] at G
   have lt:∀ k∈y.ins,k<i:=fun k m=>by have:=G.ins k m;omega
   refine⟨by have:=G.kind;omega,G.arity,fun k m=>by have:=lt k m;omega,fun e k m=>?_,fun _=>⟨G.mem,G.bit⟩,fun e=>by have:=G.kind;omega,fun _ _=>lt⟩
   have hk:=lt k m
   have hk2:k<(fh x).nodes.length:=by omega
   refine⟨_,List.getElem?_eq_getElem hk2,?_⟩
   have e1:=tZ x k
   rw[List.getD,List.getElem?_map,List.getElem?_eq_getElem hk2] at e1
   have e2:=G.bus e k m
   rw[List.getD,List.getElem?_map,List.getElem?_take,if_pos hk] at e2
   rw[List.getD,List.getElem?_map,e2] at e1
   exact e1
 refine⟨by omega,by show ((List.range (cp x).length).map ic).length=_;rw[hn];simp,xk (n:=(cp x).length) (by omega) rfl,yP ⟨by omega,fun i y h=>⟨(node i y h).ins,(node i y h).few⟩⟩,?_,?_,?_,?_,node,by rw[hn];exact hpos⟩
 ·intro m hme
  rw[kr] at hme
  split at hme
  ·rw[List.mem_singleton] at hme
   subst hme
   have lt:∀ a,a%(cp x).length<(fh x).nodes.length:=fun a=>by rw[hn];exact Nat.mod_lt _ hpos
   exact⟨(by decide:1<=1/\1<=8),(by decide:1<=2/\2<=32),fun k m=>by rw[List.mem_singleton.1 m];exact lt _,fun k m=>by simp only[List.mem_cons,List.not_mem_nil,or_false] at m;rcases m with rfl|rfl <;> exact lt _,lt _⟩
  ·cases hme
 ·rw[kr];split <;> simp
 ·intro o m
  have m:o∈(x.outs.take 3).map (· % (cp x).length)++[(cp x).length-1]:=m
  rw[hn]
  rcases List.mem_append.1 m with m|m
  ·obtain⟨q,_,rfl⟩:=List.mem_map.1 m
   exact Nat.mod_lt _ hpos
  ·rw[List.mem_singleton] at m;omega
 ·show ((x.outs.take 3).map (· % (cp x).length)++[(cp x).length-1]).length<=16
  rw[List.length_append,List.length_map,List.length_take,List.length_singleton];omega
theorem vM {x:CData} (_:x.mem=false):Good (fh x):=uj x
structure Cir (c:Circ):Prop where
 good:Good c
 mems:c.mems=[]
 kinds:∀ (i:Nat) (x:Node),c.nodes[i]?=some x->x.kind<=14
theorem Cir.len {c:Circ} (C:Cir c):c.nodes.length<=16:=C.good.len
structure PatOk (c:Circ) (p:Pat):Prop where
 inp:p.inp.length=(ofN c [0]).length
 state:p.state.length=(ofN c [14]).length
 inpv:∀ v∈p.inp,v<=3
 statev:∀ v∈p.state,v<=3
def combB (k:Nat):Bool:=decide (1<=k/\k<=13)
def Be (pn:Nat->Nat->Nat->Nat) (t:List Nat) (m:Nat) (x:Node):List Nat:=x.ins.mapIdx fun j k=>pn m j (t.getD k 0)
def srcV (c:Circ) (p:Pat) (i:Nat):Nat:=if kd c i=0 then p.inp.getD ((ofN c [0]).idxOf i) 0 else if kd c i=14 then p.state.getD ((ofN c [14]).idxOf i) 0 else 0
def baseV (c:Circ) (p:Pat) (pn:Nat->Nat->Nat->Nat) (t:List Nat) (m:Nat) (x:Node):Nat:=if combB x.kind=true then AS x.kind (Be pn t m x) else srcV c p m
structure Sol (c:Circ) (p:Pat) (nt:Nat->Nat->Nat) (pn:Nat->Nat->Nat->Nat) (t:List Nat):Prop where
 len:t.length=c.nodes.length
 val:∀ i x,c.nodes[i]?=some x->t.getD i 0=nt i (baseV c p pn t i x)
 le:∀ i,t.getD i 0<=3
structure RunS (c:Circ) (p:Pat) (nt:Nat->Nat->Nat) (pn:Nat->Nat->Nat->Nat) (o t:List Nat) (i:Nat):Prop where
 len:t.length=c.nodes.length
 done:∀ j m x,j<i->o[j]?=some m->c.nodes[m]?=some x->t.getD m 0=nt m (baseV c p pn t m x)
 todo:∀ j m x,i<=j->o[j]?=some m->c.nodes[m]?=some x->combB x.kind=false->t.getD m 0=srcV c p m
 le:∀ i,t.getD i 0<=3
theorem cB {c:Circ}{i:Nat}{x:Node} (h:c.nodes[i]?=some x):insOf c i=x.ins:=by unfold insOf;rw[List.getD,List.getElem?_map,h];rfl
def Ao (c:Circ) (p:Pat) (nt:Nat->Nat->Nat) (pn:Nat->Nat->Nat->Nat):Nat->List Nat
 |0=>[]
 |i+1=>Ao c p nt pn i++[match c.nodes[i]? with|some x=>nt i (baseV c p pn (Ao c p nt pn i) i x) | none=>0]
def sol (c:Circ) (p:Pat) (nt:Nat->Nat->Nat) (pn:Nat->Nat->Nat->Nat):List Nat:=Ao c p nt pn c.nodes.length
structure StuckOk (c:Circ) (f:Flt):Prop where
 model:f.model=0
 value:f.value<=1
 other:f.other=0
 node:f.line.node<c.nodes.length
 pin1 : -1<=f.line.pin
 pin2:f.line.pin<Int.ofNat (insOf c f.line.node).length
theorem lV {c:Circ} (C:Cir c) {K:Nat->Prop} (h:K 0):cr c K:=by
 unfold cr
 refine xf C.good ⟨(fun q=>absurd rfl (dq.1 q)),fun _=>⟨fun q=>?_,fun _=>h⟩⟩
 have:=ba.1 q
 rw[C.mems] at this
 exact absurd this (Nat.not_lt_zero _)
theorem re {c:Circ}{l:LnZ} (h1:l.node<c.nodes.length) (h2 : -1<=l.pin) (h3:l.pin<Int.ofNat (insOf c l.node).length) {K:Bool->Prop} (h:K true):db c l K:=by
 unfold db
 refine⟨fun _=>⟨fun _=>⟨fun _=>?_,fun q=>?_⟩,fun q=>?_⟩,fun q=>?_⟩
 ·obtain⟨x,hx⟩:=aI h1
  refine⟨x,hx,?_⟩
  rw[cB hx] at h3
  rw[sh.2 h3];exact h
 ·have:ltI l.pin (Int.negSucc 0)=true:=by revert q;cases ltI l.pin (Int.negSucc 0) <;> simp
  have:l.pin<Int.negSucc 0:=sh.1 this
  omega
 ·have:=bO.1 q;omega
 ·have:=nf.1 q;omega
theorem wI {c:Circ} (C:Cir c) {f:Flt} (F:StuckOk c f) {K:Nat->Prop} (h:K 0):faults_Check_wp c f K:=by
 unfold faults_Check_wp
 refine lV C ⟨(fun q=>absurd rfl (dq.1 q)),fun _=>?_⟩
 refine cX (a:=false) (fun G=>⟨fun q=>?_,fun _=>⟨fun q=>?_,fun _=>re F.node F.pin1 F.pin2 G⟩⟩) ⟨(fun q=>by cases q),fun _=>⟨fun q=>?_,fun _=>⟨fun q=>?_,fun _=>h⟩⟩⟩
 ·have:=ba.1 q;have:=F.model;omega
 ·have:=ba.1 q;have:=F.value;omega
 ·have:=je.1 q;have:=F.model;omega
 ·exact absurd F.other (dq.1 q)
def Con (a b:Nat):Prop:=a<=1/\b<=1/\a≠b
instance (a b:Nat):Decidable (Con a b):=by unfold Con;infer_instance
theorem Bc {p:Nat->Bool}{i:Nat}:(List.range (i+1)).filter p=(List.range i).filter p++(if p i=true then [i] else []):=by
 rw[List.range_succ,List.filter_append]
 congr 1
 rw[List.filter_cons]
 split <;> rfl
theorem gM {α:Type}{l:List α}{i:Nat}{x:α} (h:l[i]?=some x):l.take (i+1)=l.take i++[x]:=by
 obtain⟨h1,rfl⟩:=List.getElem?_eq_some_iff.1 h
 exact List.take_succ_eq_append_getElem h1
def oD (c:Circ) (i:Nat):List LnZ:=(List.range ((insOf c i).length+1)).map fun j=>⟨i,Int.ofNat j-Int.ofNat 1⟩
def eD (c:Circ) (i:Nat):List LnZ:=(List.range i).flatMap (oD c)
def gV (c:Circ):List LnZ:=eD c c.nodes.length
theorem mr (c:Circ) (i:Nat):eD c (i+1)=eD c i++oD c i:=by
 unfold eD
 rw[List.range_succ,List.flatMap_append]
 simp
theorem jo {c:Circ} (C:Cir c):∀ i,i<=c.nodes.length->(eD c i).length<=i*17
 |0,_=>by unfold eD;simp
 |i+1,h=>by
  have:=jo C i (by omega)
  obtain⟨x,hx⟩:=aI (show i<c.nodes.length from h)
  have:=(C.good.node i x hx).few
  rw[mr,List.length_append]
  unfold oD
  rw[List.length_map,List.length_range,cB hx]
  omega
theorem sI {c:Circ} (C:Cir c) {K:List LnZ×Nat->Prop} (h:K (gV c,0)):bT c K:=by
 have hlen:=C.len
 unfold bT
 refine lV C ⟨(fun q=>absurd rfl (dq.1 q)),fun _=>?_⟩
 refine aO (fun s=>s.2<=c.nodes.length/\s.1=eD c s.2) (fun s=>c.nodes.length-s.2) (fun l=>l=gV c) ?_ ⟨Nat.zero_le _,rfl⟩ (fun _ e=>e ▸ h)
 rintro k ⟨l,i⟩ nx ⟨hi,hl⟩ hnx hk
 dsimp only at hi hl
 refine⟨fun q=>?_,fun q=>hk _ ?_⟩
 ·have q:i<c.nodes.length:=ba.1 q
  obtain⟨x,hx⟩:=aI q
  have hfew:=(C.good.node i x hx).few
  have hll:=jo C i hi
  refine de (fun r=>r=eD c (i+1)) (fun k2 hk2=>⟨x,hx,by omega,?_⟩) ?_
  ·refine bh (fun s=>s.2<=x.ins.length+1/\s.1=eD c i++(oD c i).take s.2) (fun s=>x.ins.length+1-s.2) ?_ ⟨Nat.zero_le _,by simp[hl]⟩
   rintro⟨l,j⟩ nx ⟨hj,hl⟩ hnx
   dsimp only at hj hl
   refine⟨fun q=>?_,fun q=>hk2 _ ?_⟩
   ·have q:j<x.ins.length+1:=ba.1 q
    have hg:(oD c i)[j]?=some ⟨i,Int.ofNat j-Int.ofNat 1⟩:=by
     unfold oD
     rw[List.getElem?_map,cB hx,List.getElem?_range q]
     rfl
    have hb:((oD c i).take j).length<=17:=by
     rw[List.length_take];omega
    refine⟨by simp only[Int.ofNat_eq_natCast];omega,by simp only[Int.ofNat_eq_natCast];omega,?_,by omega,hnx _ ⟨q,?_⟩ (by dsimp only;omega)⟩
    ·rw[hl,List.length_append,List.length_singleton];omega
    ·dsimp only
     rw[hl,List.append_assoc,gM hg]
   ·have q:x.ins.length+1<=j:=bO.1 q
    rw[hl,mr,List.take_of_length_le]
    unfold oD
    rw[List.length_map,List.length_range,cB hx]
    exact q
  ·rintro _ rfl
   exact⟨by omega,hnx _ ⟨q,rfl⟩ (by dsimp only;omega)⟩
 ·have q:c.nodes.length<=i:=bO.1 q
  have e:i=c.nodes.length:=by omega
  subst e
  exact hl
theorem aD {α:Type}{l:List α}{a b:α}:a∈l++[b]↔a∈l\/a=b:=by rw[List.mem_append,List.mem_singleton]
theorem tf {κ ν:Type} [DecidableEq κ] (m:List (κ×ν)) (k k':κ) (v:ν):bS (gz m k v) k'=if k'=k then some v else bS m k':=by
 induction m with
 |nil=>unfold gz bS bS;rfl
 |cons a m ih =>
  unfold gz
  by_cases e:k=a.1
  ·rw[if_pos e]
   unfold bS
   by_cases e2:k'=k
   ·rw[if_pos e2,if_pos e2]
   ·rw[if_neg e2,if_neg e2,if_neg (fun q=>e2 (q.trans e.symm))]
  ·rw[if_neg e]
   unfold bS
   by_cases e2:k'=a.1
   ·rw[if_pos e2,if_pos e2,if_neg (fun q=>e (q.symm.trans e2))]
   ·rw[if_neg e2,if_neg e2,ih]
theorem ta {c:Circ}{l:LnZ}:l∈gV c↔l.node<c.nodes.length/\(l.pin=Int.negSucc 0\/∃ j,l.pin=Int.ofNat j/\j<(insOf c l.node).length):=by
 unfold gV eD oD
 rw[List.mem_flatMap]
 constructor
 ·rintro⟨i,hi,h⟩
  obtain⟨j,hj,rfl⟩:=List.mem_map.1 h
  have hi:=List.mem_range.1 hi
  have hj:=List.mem_range.1 hj
  refine⟨hi,?_⟩
  cases j with
  |zero=>exact .inl rfl
  |succ j=>exact .inr ⟨j,by simp only[Int.ofNat_eq_natCast];omega,by dsimp only;omega⟩
 ·obtain⟨n,q⟩:=l
  rintro⟨h1,h2⟩
  dsimp only at h1 h2
  refine⟨n,List.mem_range.2 h1,?_⟩
  rcases h2 with rfl|⟨j,rfl,hj⟩
  ·exact List.mem_map.2 ⟨0,List.mem_range.2 (by omega),rfl⟩
  ·exact List.mem_map.2 ⟨j+1,List.mem_range.2 (by omega),by simp only[Int.ofNat_eq_natCast,LnZ.mk.injEq,true_and];omega⟩
theorem tO {c:Circ}{l:LnZ} (hl:l∈gV c) {v:Nat} (hv:v<=1):StuckOk c ⟨0,l,v,0⟩:=by
 obtain⟨h1,h2⟩:=ta.1 hl
 refine⟨rfl,hv,rfl,h1,?_,?_⟩
 ·rcases h2 with e|⟨j,e,_⟩
  ·dsimp only;rw[e];decide
  ·dsimp only;rw[e];simp only[Int.ofNat_eq_natCast];omega
 ·rcases h2 with e|⟨j,e,hj⟩
  ·dsimp only;rw[e];exact Int.lt_of_lt_of_le (show Int.negSucc 0<0 by decide) (Int.natCast_nonneg _)
  ·dsimp only;rw[e];simp only[Int.ofNat_eq_natCast];omega
def bJ:Circ:=⟨[⟨0,[],0,0⟩,⟨0,[],0,0⟩,⟨5,[0,1],0,0⟩],[⟨#[97]⟩,⟨#[98]⟩,⟨#[121]⟩],[],[2]⟩
theorem uC:(([⟨#[97]⟩,⟨#[98]⟩,⟨#[121]⟩]:List ByteArray).all fun s=>isTrue (mZ Tryd.prog [] (mC Tryd.prog) 60 89 #[.string s] (dI vars)))=true:=by kernel_rfl
theorem yJ {s:ByteArray} (h:s∈([⟨#[97]⟩,⟨#[98]⟩,⟨#[121]⟩]:List ByteArray)):zm s:=by
 obtain⟨h',e⟩:=oT (List.all_eq_true.1 uC s h)
 have c:=(gG hM hP (fun f vs h v e=>iQ f vs h v e) 60 _ _ _ _ _ e).1
 exact⟨PureV.oe rfl,fun h b=>c.lift (by kernel_rfl) rfl (kS (vg b) (nR b))⟩
theorem ql {i:Nat}{x:Node} (h:bJ.nodes[i]?=some x):(i=0/\x=⟨0,[],0,0⟩)\/(i=1/\x=⟨0,[],0,0⟩)\/(i=2/\x=⟨5,[0,1],0,0⟩):=by
 have hi:=ag h
 have hi:i<3:=hi
 have:i=0\/i=1\/i=2:=by omega
 rcases this with rfl|rfl|rfl
 ·cases h;exact .inl ⟨rfl,rfl⟩
 ·cases h;exact .inr (.inl ⟨rfl,rfl⟩)
 ·cases h;exact .inr (.inr ⟨rfl,rfl⟩)
theorem xa:Cir bJ:=by
 have node:∀ i x,bJ.nodes[i]?=some x->GoodN bJ i x:=by
  intro i x h
  rcases ql h with⟨rfl,rfl⟩|⟨rfl,rfl⟩|⟨rfl,rfl⟩
  ·exact⟨(by decide:0<=15),(by decide:Arity 0 0),(fun k m=>by cases m),(fun e=>by cases e),fun _=>⟨rfl,rfl⟩,(fun e=>by cases e),fun e=>absurd e (by decide:¬ 1<=0)⟩
  ·exact⟨(by decide:0<=15),(by decide:Arity 0 0),(fun k m=>by cases m),(fun e=>by cases e),fun _=>⟨rfl,rfl⟩,(fun e=>by cases e),fun e=>absurd e (by decide:¬ 1<=0)⟩
  ·exact⟨(by decide:5<=15),(by decide:Arity 5 2),(by decide:∀ k∈[0,1],k<3),(fun e=>by cases e),fun _=>⟨rfl,rfl⟩,(fun e=>by cases e),fun _ _=>(by decide:∀ k∈[0,1],k<2)⟩
 have F:FanOk bJ:=yP ⟨by decide,fun i x h=>⟨(node i x h).ins,(node i x h).few⟩⟩
 have N:NamesOk bJ:=by
  refine FnV.nZ (enc:=i64) (PureV.flat rfl) fun h hB=>?_
  exact jG (K:=fun r=>r=0) (lU (fun s m=>yJ m) (by decide) (by decide) rfl) hB
 refine⟨⟨by decide,rfl,N,F,(fun m h=>by cases h),by decide,by decide,by decide,node,by decide⟩,rfl,fun i x h=>?_⟩
 rcases ql h with⟨rfl,rfl⟩|⟨rfl,rfl⟩|⟨rfl,rfl⟩ <;> decide
structure Si where
 node:Nat
 pin:Nat
 v:Nat
deriving DecidableEq
structure VS (c:Circ) (s:Si):Prop where
 node:s.node<c.nodes.length
 pin:s.pin<=(insOf c s.node).length
 v:s.v<=1
def eqR (k n:Nat):List Rul :=
 if k=3\/k=13/\n=1 then [⟨0,0⟩,⟨1,1⟩] else if k=4 then [⟨0,1⟩,⟨1,0⟩] else if k=5 then [⟨0,0⟩] else if k=6 then [⟨0,1⟩] else if k=7 then [⟨1,1⟩] else if k=8 then [⟨1,0⟩] else []
theorem uE {k n:Nat}{r:Rul} (h:r∈eqR k n):r.pin<=1/\r.out<=1:=by
 unfold eqR at h
 split at h
 ·simp only[List.mem_cons,List.not_mem_nil,or_false] at h
  rcases h with rfl|rfl <;> decide
 split at h
 ·simp only[List.mem_cons,List.not_mem_nil,or_false] at h
  rcases h with rfl|rfl <;> decide
 split at h
 ·rw[List.mem_singleton] at h;subst h;decide
 split at h
 ·rw[List.mem_singleton] at h;subst h;decide
 split at h
 ·rw[List.mem_singleton] at h;subst h;decide
 split at h
 ·rw[List.mem_singleton] at h;subst h;decide
 ·cases h
theorem zJ (k n:Nat):(eqR k n).length<=2:=by
 unfold eqR
 repeat' split
 all_goals decide
def Ar (n:Nat) (r:Rul) (j:Nat):Si×Si:=(⟨n,j+1,r.pin⟩,⟨n,0,r.out⟩)
def uh (c:Circ) (n:Nat) (r:Rul):List (Si×Si):=(List.range (insOf c n).length).map (Ar n r)
def xF (c:Circ) (n:Nat):List (Si×Si):=(eqR (kd c n) (insOf c n).length).flatMap (uh c n)
def eF (c:Circ) (i:Nat):List (Si×Si):=(List.range i).flatMap (xF c)
def kP (c:Circ) (n:Nat):Option Ln:=match fanOf c n with
 |[l]=>if n∈c.outs then none else some l
 |_=>none
def vJ (c:Circ) (n:Nat):List (Si×Si):=match kP c n with
 |some l=>[(⟨n,0,0⟩,⟨l.node,l.pin+1,0⟩),(⟨n,0,1⟩,⟨l.node,l.pin+1,1⟩)]
 |none=>[]
def gT (c:Circ) (i:Nat):List (Si×Si):=(List.range i).flatMap (vJ c)
def edgesN (c:Circ):List (Si×Si):=eF c c.nodes.length++gT c c.nodes.length
theorem sU (c:Circ) (i:Nat):eF c (i+1)=eF c i++xF c i:=by
 unfold eF
 rw[List.range_succ,List.flatMap_append]
 simp
theorem ni (c:Circ) (i:Nat):gT c (i+1)=gT c i++vJ c i:=by
 unfold gT
 rw[List.range_succ,List.flatMap_append]
 simp
def dj (c:Circ):Nat->Nat
 |0=>0
 |i+1=>dj c i+2*((insOf c i).length+1)
def fsN (c:Circ):List Nat:=(List.range c.nodes.length).map (dj c)
def npN (c:Circ):Nat:=dj c c.nodes.length
def numN (c:Circ) (s:Si):Nat:=dj c s.node+2*s.pin+s.v
theorem js {c:Circ}{i j:Nat} (h:i<=j):dj c i<=dj c j:=by
 induction j with
 |zero =>
    have:i=0:=by omega
    rw[this];exact Nat.le_refl _
 |succ j ih =>
  by_cases q:i=j+1
  ·rw[q];exact Nat.le_refl _
  ·have:=ih (by omega)
   rw[dj];omega
theorem rb {c:Circ}{s:Si} (h:VS c s):numN c s<dj c (s.node+1):=by
 have:=h.pin
 have:=h.v
 unfold numN
 rw[dj];omega
theorem iM {c:Circ}{s:Si} (h:VS c s):numN c s<npN c:=Nat.lt_of_lt_of_le (rb h) (js h.node)
theorem xZ {c:Circ}{s t:Si} (h:VS c s) (g:VS c t) (e:numN c s=numN c t):s=t:=by
 have h1:=rb h
 have h2:=rb g
 have hn:s.node=t.node:=by
  rcases Nat.lt_trichotomy s.node t.node with q|q|q
  ·have:=js (c:=c) (show s.node+1<=t.node from q)
   have:dj c t.node<=numN c t:=by unfold numN;omega
   omega
  ·exact q
  ·have:=js (c:=c) (show t.node+1<=s.node from q)
   have:dj c s.node<=numN c s:=by unfold numN;omega
   omega
 have a1:=h.v
 have a2:=g.v
 obtain⟨n,p,v⟩:=s
 obtain⟨n',p',v'⟩:=t
 dsimp only at hn a1 a2
 subst hn
 unfold numN at e
 dsimp only at e
 obtain rfl:p=p':=by omega
 obtain rfl:v=v':=by omega
 rfl
theorem mQ {c:Circ} (C:Cir c):∀ i,i<=c.nodes.length->dj c i<=i*34
 |0,_=>Nat.le_refl _
 |i+1,h=>by
  have:=mQ C i (by omega)
  obtain⟨x,hx⟩:=aI (show i<c.nodes.length from h)
  have:=(C.good.node i x hx).few
  rw[dj,cB hx];omega
theorem tT {c:Circ} (C:Cir c):npN c<=544:=by
 have:=mQ C _ (Nat.le_refl _)
 have:=C.len
 unfold npN;omega
theorem yZ {c:Circ}{i:Nat} (h:i<c.nodes.length):(fsN c)[i]?=some (dj c i):=by
 unfold fsN
 rw[List.getElem?_map,List.getElem?_range h];rfl
theorem zH {c:Circ} (C:Cir c) {K:List Nat×List Nat×Nat->Prop} (h:K (fsN c,List.range (npN c),npN c)):dh c K:=by
 have hlen:=C.len
 have hnp:=tT C
 unfold dh
 refine aO (fun s=>s.2.2<=c.nodes.length/\s.1=(List.range s.2.2).map (dj c)/\s.2.1=dj c s.2.2) (fun s=>c.nodes.length-s.2.2) (fun s=>s=(fsN c,npN c)) ?_ ⟨Nat.zero_le _,rfl,rfl⟩ ?_
 ·rintro k ⟨fs,n,i⟩ nx ⟨hi,hf,hn⟩ hnx hk
  dsimp only at hi hf hn
  refine⟨fun q=>?_,fun q=>hk _ ?_⟩
  ·have q:i<c.nodes.length:=ba.1 q
   obtain⟨x,hx⟩:=aI q
   have hfew:=(C.good.node i x hx).few
   have:=mQ C i (by omega)
   refine⟨x,hx,?_,by omega,by omega,by omega,by omega,hnx _ ⟨q,?_,?_⟩ (by dsimp only;omega)⟩
   ·rw[hf,List.length_map,List.length_range,List.length_singleton];omega
   ·dsimp only
    rw[hf,hn,List.range_succ,List.map_append];rfl
   ·dsimp only
    rw[dj,cB hx,hn]
  ·have q:c.nodes.length<=i:=bO.1 q
   obtain rfl:i=c.nodes.length:=by omega
   rw[hf,hn];rfl
 ·rintro _ rfl
  refine⟨by omega,by omega,?_⟩
  refine aO (fun s=>s.2<=npN c/\s.1=List.range s.2++List.replicate (npN c-s.2) 0) (fun s=>npN c-s.2) (fun s=>s=List.range (npN c)) ?_ ⟨Nat.zero_le _,by simp⟩ (fun _ e=>e ▸ h)
  rintro k ⟨ps,i⟩ nx ⟨hi,hp⟩ hnx hk
  dsimp only at hi hp
  refine⟨fun q=>?_,fun q=>hk _ ?_⟩
  ·have q:i<npN c:=ba.1 q
   have hl:i<ps.length:=by rw[hp];simp;omega
   refine⟨q,_,List.getElem?_eq_getElem hl,by omega,hnx _ ⟨q,?_⟩ (by dsimp only;omega)⟩
   dsimp only
   rw[hp,List.set_append_right _ _ (by simp),List.range_succ,List.append_assoc]
   congr 1
   rw[List.length_range,Nat.sub_self,show npN c-i=(npN c-(i+1))+1 by omega,List.replicate_succ]
   rfl
  ·have q:npN c<=i:=bO.1 q
   obtain rfl:i=npN c:=by omega
   rw[hp];simp
theorem vW {S:Type}{body:S->(S->Prop)->Prop} (Inv:Nat->S->Prop) (step:∀ n s next,Inv n s->(∀ m s',m<n->Inv m s'->next s')->body s next) {n:Nat}{s:S} (h:Inv n s):aP body s:=by
 have key:∀ N n s,Inv n s->n<N->th body N s:=by
  intro N
  induction N with
  |zero=>intro n s _ h;omega
  |succ N ih=>exact fun n s hI hn=>step n s _ hI fun m s' h1 h2=>ih m s' h2 (by omega)
 exact⟨n+1,key _ n s h (by omega)⟩
theorem lS {np i r:Nat}{fs ps:List Nat} (hl:ps.length=np) (hr:Rt ps i r) {K:List Nat×Nat->Prop} (h:∀ qs,SameR ps qs->K (qs,r)):bE np fs ps i K:=by
 obtain⟨n,hn⟩:=hr
 unfold bE
 refine vW (fun n s=>SameR ps s.1/\RtN s.1 n s.2 r) ?_ (n:=n) ⟨SameR.refl ps,hn⟩
 rintro n ⟨qs,i⟩ nx ⟨hs,hq⟩ hnx
 dsimp only at hs hq
 have hlq:qs.length=np:=hs.len.trans hl
 have hi:i<np:=hlq ▸ Rt.lt1 ⟨n,hq⟩
 match n,hq with
 |0,hq =>
  obtain⟨h1,rfl⟩:=hq
  exact⟨hi,i,h1,(fun q=>absurd rfl (dq.1 q)),fun _=>h qs hs⟩
 |n+1,⟨j,h1,h2,h3⟩ =>
  have hj:j<np:=hlq ▸ Rt.lt1 ⟨n,h3⟩
  obtain⟨k,hk⟩:=aI (l:=qs) (i:=j) (by rw[hlq];exact hj)
  refine⟨hi,j,h1,fun _=>⟨hi,j,h1,hj,k,hk,hi,j,h1,hi,k,List.getElem?_set_self (by rw[hlq];exact hi),?_⟩,fun q=>absurd (pD.1 q) h2⟩
  obtain⟨m,hm1,hm⟩:∃ m,m<=n/\RtN (qs.set i k) m k r:=by
   match n,h3 with
   |0,h3 =>
    obtain⟨e,rfl⟩:=h3
    rw[e] at hk;cases hk
    obtain⟨m,hm,g⟩:=RtN.sF h1 e h2 (show RtN qs 0 j j from⟨e,rfl⟩)
    exact⟨m,hm,g⟩
   |n+1,⟨k',e,_,h3⟩ =>
    rw[hk] at e;cases e
    obtain⟨m,hm,g⟩:=RtN.sF h1 hk h2 h3
    exact⟨m,by omega,g⟩
  exact hnx m _ (by omega) ⟨hs.trans (SameR.sF h1 hk h2),hm⟩
theorem ou {c:Circ} (C:Cir c) {s:Si} (hs:VS c s) {np:Nat}{ps:List Nat}{pin:Int} (hp:pin+Int.ofNat 1=Int.ofNat s.pin) {K:Nat->Prop} (h:K (numN c s)):bC np (fsN c) ps s.node pin s.v K:=by
 have h1:=iM hs
 have h2:=tT C
 have h3:=hs.v
 unfold numN at h1
 unfold bC
 exact⟨_,yZ hs.node,s.pin,hp,by omega,by omega,by omega,by omega,by omega,h⟩
abbrev EdgeI (c:Circ) (es:List (Si×Si)) (ps:List Nat):Prop:=UfI (VS c) (numN c) (fun u w=>(u,w)∈es) ps (npN c)
theorem UfI.congr {α:Type}{V:α->Prop}{num:α->Nat}{E F:α->α->Prop}{ps:List Nat}{np:Nat} (U:UfI V num E ps np) (h:∀ a b,E a b↔F a b):UfI V num F ps np:=by
 have:E=F:=by funext a b;exact propext (h a b)
 exact this ▸ U
theorem uR {c:Circ}{es:List (Si×Si)}{ps:List Nat} (U:EdgeI c es ps) {x y:Si} (hx:VS c x) (hy:VS c y) {fs:List Nat}{K:List Nat->Prop} (h:∀ qs,EdgeI c (es++[(x,y)]) qs->K qs):cN (npN c) fs ps (numN c x) (numN c y) K:=by
 obtain⟨rx,hrx⟩:=U.fo (numN c x) (U.len ▸ iM hx)
 obtain⟨ry,hry⟩:=U.fo (numN c y) (U.len ▸ iM hy)
 unfold cN
 refine lS U.len hrx fun qs hq=>?_
 have U1:=U.same hq
 refine lS U1.len (hq.rt _ _ hry) fun qs2 hq2=>?_
 have U2:=U1.same hq2
 have h1:=hq2.rt _ _ (hq.rt _ _ hrx)
 have h2:=hq2.rt _ _ (hq.rt _ _ hry)
 refine⟨by rw[<- U2.len];exact h1.lt,_,h1.root,h _ ((U2.join hx hy h1 h2).congr fun a b=>?_)⟩
 rw[List.mem_append,List.mem_singleton,Prod.mk.injEq]
theorem nw {k:Nat}{K:Rul×Bool->Prop} (h5:k=5->K (⟨0,0⟩,true)) (h6:k=6->K (⟨0,1⟩,true)) (h7:k=7->K (⟨1,1⟩,true)) (h8:k=8->K (⟨1,0⟩,true)) (h:k≠5->k≠6->k≠7->k≠8->K (⟨0,0⟩,false)):aZ k K :=
 ⟨fun q=>h5 (eh.1 q),fun q5=>⟨fun q=>h6 (eh.1 q),fun q6=>⟨fun q=>h7 (eh.1 q),fun q7=>⟨fun q=>h8 (eh.1 q),fun q8=>h (fI.1 q5) (fI.1 q6) (fI.1 q7) (fI.1 q8)⟩⟩⟩⟩
theorem yT {x:Node}{K:List Rul->Prop} (h:K (eqR x.kind x.ins.length)):ck x K:=by
 have fin:(x.kind≠3)->¬ (x.kind=13/\x.ins.length=1)->x.kind≠4->aZ x.kind (fun r2=>(r2.2=true->K ([(⟨r2.1.pin,r2.1.out⟩:Rul)]:(List Rul)))/\(r2.2=false->K ([]))):=by
  intro h3 h13 h4
  have e:eqR x.kind x.ins.length=if x.kind=5 then [⟨0,0⟩] else if x.kind=6 then [⟨0,1⟩] else if x.kind=7 then [⟨1,1⟩] else if x.kind=8 then [⟨1,0⟩] else []:=by
   unfold eqR
   rw[if_neg (fun q=>q.elim h3 h13),if_neg h4]
  rw[e] at h
  refine nw (fun q=>?_) (fun q=>?_) (fun q=>?_) (fun q=>?_) fun q5 q6 q7 q8=>?_
  ·exact⟨fun _=>by simpa[q] using h,fun q=>by cases q⟩
  ·exact⟨fun _=>by simpa[q] using h,fun q=>by cases q⟩
  ·exact⟨fun _=>by simpa[q] using h,fun q=>by cases q⟩
  ·exact⟨fun _=>by simpa[q] using h,fun q=>by cases q⟩
  ·exact⟨(fun q=>by cases q),fun _=>by simpa[q5,q6,q7,q8] using h⟩
 unfold ck
 refine⟨fun q=>?_,fun q3=>⟨fun q13=>⟨fun q1=>?_,fun q1=>?_⟩,fun q13=>⟨fun q4=>?_,fun q4=>?_⟩⟩⟩
 ·have q:=eh.1 q
  simpa[eqR,q] using h
 ·have q13:=eh.1 q13
  have q1:=eh.1 q1
  simpa[eqR,q13,q1] using h
 ·have q13:=eh.1 q13
  exact fin (fI.1 q3) (fun q=>fI.1 q1 q.2) (by omega)
 ·have q4:=eh.1 q4
  simpa[eqR,q4] using h
 ·exact fin (fI.1 q3) (fun q=>fI.1 q13 q.1) (fI.1 q4)
theorem xM {l:List Nat}{x:Nat} (hl:l.length<2 ^ 60) {K:Int->Prop} (h1:x∈l->∀ i:Nat,K (Int.ofNat i)) (h2:x ∉ l->K (Int.negSucc 0)):eE l x K:=by
 unfold eE
 refine aO (fun i=>i<=l.length/\x ∉ l.take i) (fun i=>l.length-i) (fun _=>x ∉ l) ?_ ⟨Nat.zero_le _,by simp⟩ (fun _ q=>h2 q)
 rintro k i nx ⟨hi,hn⟩ hnx hk
 refine⟨fun q=>?_,fun q=>hk _ ?_⟩
 ·have q:i<l.length:=ba.1 q
  obtain⟨y,hy⟩:=aI q
  refine⟨y,hy,fun e=>h1 ?_ i,fun e=>⟨by omega,hnx _ ⟨q,?_⟩ (by omega)⟩⟩
  ·rw[eh.1 e];exact List.mem_of_getElem? hy
  ·rw[gM hy,aD]
   exact fun m=>m.elim hn (fI.1 e)
 ·have q:l.length<=i:=bO.1 q
  rw[List.take_of_length_le q] at hn
  exact hn
theorem rQ {l:List Nat}{x:Nat} (hl:l.length<2 ^ 60) {K:Bool->Prop} (h:K (decide (x∈l))):cW l x K:=by
 unfold cW
 refine xM hl (fun m i=>?_) fun m=>?_
 ·rw[decide_eq_true m] at h
  rw[yR i];exact h
 ·rw[decide_eq_false m] at h
  exact h
theorem wV {c:Circ}{n:Nat}{x:Node} (hx:c.nodes[n]?=some x) {r:Rul} (hr:r∈eqR x.kind x.ins.length):VS c ⟨n,0,r.out⟩:=⟨ag hx,Nat.zero_le _,(uE hr).2⟩
theorem wq {c:Circ}{n j:Nat}{x:Node} (hx:c.nodes[n]?=some x) (hj:j<x.ins.length) {r:Rul} (hr:r∈eqR x.kind x.ins.length):VS c ⟨n,j+1,r.pin⟩:=⟨ag hx,by rw[cB hx];exact hj,(uE hr).1⟩
theorem vh {c:Circ}{n:Nat}{l:Ln} (h:l∈fanOf c n):∃ x,c.nodes[l.node]?=some x/\x.ins[l.pin]?=some n:=by
 unfold fanOf at h
 obtain⟨p,h1,h2⟩:=List.mem_flatMap.1 h
 unfold bg at h2
 obtain⟨q,hq,rfl⟩:=List.mem_map.1 h2
 obtain⟨hq1,hq2⟩:=List.mem_filter.1 hq
 have h1:=List.mem_zipIdx_iff_getElem?.1 h1
 have hq1:=List.mem_zipIdx_iff_getElem?.1 hq1
 have hq2:q.1=n:=by simpa using hq2
 exact⟨p.1,h1,hq2 ▸ hq1⟩
theorem qn {c:Circ}{n:Nat}{l:Ln} (h:kP c n=some l):fanOf c n=[l]/\n ∉ c.outs:=by
 unfold kP at h
 split at h
 ·rename_i l' e
  split at h
  ·cases h
  ·cases h
   exact⟨e,by assumption⟩
 ·cases h
theorem vI {c:Circ} (C:Cir c) {K:List Nat×List Nat×Nat->Prop} (h:∀ ps,EdgeI c (edgesN c) ps->K (fsN c,ps,npN c)):cL c K:=by
 have hlen:=C.len
 have hnp:=tT C
 unfold cL
 refine zH C ?_
 have U0:EdgeI c [] (List.range (npN c)):=by
  have hr:∀ i r,Rt (List.range (npN c)) i r->i=r:=by
   rintro i r ⟨n,h⟩
   cases n with
   |zero=>exact h.2
   |succ n =>
    obtain⟨j,h1,h2,_⟩:=h
    obtain⟨h3,h4⟩:=List.getElem?_eq_some_iff.1 h1
    rw[List.getElem_range] at h4
    exact absurd h4.symm h2
  refine⟨List.length_range,fun i hi=>⟨i,Rt.self ?_⟩,fun a ha=>iM ha,fun a b r s ha hb h1 h2=>?_⟩
  ·rw[List.length_range] at hi
   exact List.getElem?_range hi
  ·rw[<- hr _ _ h1,<- hr _ _ h2]
   constructor
   ·intro e
    rw[xZ ha hb e];exact .refl _
   ·intro q
    have:a=b:=q.inv (f:=id) (fun _ _ m=>by cases m)
    rw[this]
 refine aO (fun s=>s.2<=c.nodes.length/\EdgeI c (eF c s.2) s.1) (fun s=>c.nodes.length-s.2) (fun s=>EdgeI c (eF c c.nodes.length) s) ?_ ⟨Nat.zero_le _,(show EdgeI c (eF c 0) (List.range (npN c)) from U0)⟩ ?_
 ·rintro k ⟨ps,i⟩ nx ⟨hi,hU⟩ hnx hk
  dsimp only at hi hU
  refine⟨fun q=>?_,fun q=>hk _ ?_⟩
  ·have q:i<c.nodes.length:=ba.1 q
   obtain⟨x,hx⟩:=aI q
   have hfew:=(C.good.node i x hx).few
   refine de (fun s=>EdgeI c (eF c (i+1)) s) (fun k2 hk2=>⟨x,hx,yT ?_⟩) fun ps2 hU2=>⟨by omega,hnx _ ⟨q,hU2⟩ (by dsimp only;omega)⟩
   have hlen2:=zJ x.kind x.ins.length
   refine bh (fun s=>s.2<=(eqR x.kind x.ins.length).length/\EdgeI c (eF c i++((eqR x.kind x.ins.length).take s.2).flatMap (uh c i)) s.1) (fun s=>(eqR x.kind x.ins.length).length-s.2) ?_ ⟨Nat.zero_le _,by simpa using hU⟩
   rintro⟨ps,t⟩ nx3 ⟨ht,hU⟩ hnx3
   dsimp only at ht hU
   refine⟨fun q3=>?_,fun q3=>hk2 _ ?_⟩
   ·have q3:t<(eqR x.kind x.ins.length).length:=ba.1 q3
    obtain⟨r,hr⟩:=aI q3
    have hrm:=List.mem_of_getElem? hr
    refine de (fun s=>EdgeI c (eF c i++((eqR x.kind x.ins.length).take t).flatMap (uh c i)++uh c i r) s) (fun k4 hk4=>⟨r,hr,?_⟩) fun ps2 hU2=>⟨by omega,hnx3 _ ⟨q3,?_⟩ (by dsimp only;omega)⟩
    ·refine bh (fun s=>s.2<=x.ins.length/\EdgeI c (eF c i++((eqR x.kind x.ins.length).take t).flatMap (uh c i)++(List.range s.2).map (Ar i r)) s.1) (fun s=>x.ins.length-s.2) ?_ ⟨Nat.zero_le _,by simpa using hU⟩
     rintro⟨ps,j⟩ nx5 ⟨hj,hU⟩ hnx5
     dsimp only at hj hU
     refine⟨fun q5=>?_,fun q5=>hk4 _ ?_⟩
     ·have q5:j<x.ins.length:=ba.1 q5
      have v1:=wq hx q5 hrm
      have v2:=wV hx hrm
      refine ou C v1 (by simp only[Int.ofNat_eq_natCast];omega) (ou C v2 (by rfl) (uR hU v1 v2 fun qs hQ=>⟨by omega,hnx5 _ ⟨q5,?_⟩ (by dsimp only;omega)⟩))
      dsimp only
      rw[List.range_succ,List.map_append,<- List.append_assoc]
      exact hQ
     ·have q5:x.ins.length<=j:=bO.1 q5
      obtain rfl:j=x.ins.length:=by omega
      have e:uh c i r=(List.range x.ins.length).map (Ar i r):=by unfold uh;rw[cB hx]
      rw[e];exact hU
    ·dsimp only
     rw[gM hr,List.flatMap_append,<- List.append_assoc]
     simpa using hU2
   ·have q3:(eqR x.kind x.ins.length).length<=t:=bO.1 q3
    rw[List.take_of_length_le q3] at hU
    rw[sU]
    unfold xF
    rw[cB hx,jc hx]
    exact hU
  ·have q:c.nodes.length<=i:=bO.1 q
   obtain rfl:i=c.nodes.length:=by omega
   exact hU
 ·intro ps1 hU1
  refine de (fun s=>EdgeI c (edgesN c) s) (fun k hk=>⟨C.good.fanOk,?_⟩) (fun ps hU=>h ps hU)
  have hfl:(xj c).length=c.nodes.length:=by unfold xj kD;simp
  refine bh (fun s=>s.2<=c.nodes.length/\EdgeI c (eF c c.nodes.length++gT c s.2) s.1) (fun s=>c.nodes.length-s.2) ?_ ⟨Nat.zero_le _,by simpa[gT] using hU1⟩
  rintro⟨ps,i⟩ nx ⟨hi,hU⟩ hnx
  dsimp only at hi hU
  refine⟨fun q=>?_,fun q=>hk _ ?_⟩
  ·have q:i<c.nodes.length:=hfl ▸ ba.1 q
   have hget:(xj c)[i]?=some ((fanOf c i).map Ln.toZ):=by
    unfold xj
    rw[List.getElem?_map,pz q];rfl
   refine de (fun s=>EdgeI c (eF c c.nodes.length++gT c (i+1)) s) (fun k2 hk2=>⟨_,hget,?_⟩) fun ps2 hU2=>⟨by omega,hnx _ ⟨q,hU2⟩ (by dsimp only;omega)⟩
   refine de (fun b=>b=(kP c i).isSome) (fun k3 hk3=>⟨fun e=>?_,fun e=>hk3 _ ?_⟩) ?_
   ·have e:=eh.1 e
    rw[List.length_map] at e
    obtain⟨l,hl⟩:=List.length_eq_one_iff.1 e
    refine rQ (by have:=C.good.outsLen;omega) (hk3 _ ?_)
    unfold kP
    rw[hl]
    by_cases m:i∈c.outs
    ·simp[m]
    ·simp[m]
   ·have e:=fI.1 e
    rw[List.length_map] at e
    unfold kP
    split
    ·rename_i l hl
     rw[hl] at e;exact absurd rfl e
    ·rfl
   ·rintro b rfl
    cases hs:kP c i with
    |none =>
     refine⟨fun q=>(by cases q),fun _=>hk2 _ ?_⟩
     rw[ni]
     unfold vJ
     rw[hs,List.append_nil]
     exact hU
    |some l =>
     refine⟨fun _=>?_,fun q=>by cases q⟩
     obtain⟨hl,_⟩:=qn hs
     obtain⟨x,hx,hp⟩:=vh (c:=c) (n:=i) (l:=l) (by rw[hl];exact List.mem_singleton.2 rfl)
     have hE:gT c (i+1)=gT c i++[(⟨i,0,0⟩,⟨l.node,l.pin+1,0⟩),(⟨i,0,1⟩,⟨l.node,l.pin+1,1⟩)]:=by
      rw[ni]
      unfold vJ
      rw[hs]
     rw[hE] at hk2
     refine bh (fun s=>s.2<=2/\EdgeI c (eF c c.nodes.length++gT c i++([(⟨i,0,0⟩,⟨l.node,l.pin+1,0⟩),(⟨i,0,1⟩,⟨l.node,l.pin+1,1⟩)]:List (Si×Si)).take s.2) s.1) (fun s=>2-s.2) ?_ ⟨Nat.zero_le _,by simpa using hU⟩
     rintro⟨ps,v⟩ nx4 ⟨hv,hU⟩ hnx4
     dsimp only at hv hU
     refine⟨fun q4=>?_,fun q4=>hk2 _ ?_⟩
     ·have q4:v<=1:=je.1 q4
      have v1:VS c ⟨i,0,v⟩:=⟨q,Nat.zero_le _,q4⟩
      have v2:VS c ⟨l.node,l.pin+1,v⟩:=⟨ag hx,by rw[cB hx];exact ag hp,q4⟩
      have hg:((fanOf c i).map Ln.toZ)[0]?=some l.toZ:=by rw[hl];rfl
      refine ou C v1 (by rfl) ⟨_,hg,_,hg,ou C v2 (by unfold Ln.toZ;simp only[Int.ofNat_eq_natCast];omega) (uR hU v1 v2 fun qs hQ=>⟨by omega,hnx4 _ ⟨by dsimp only;omega,?_⟩ (by dsimp only;omega)⟩)⟩
      dsimp only
      rw[List.append_assoc] at hQ
      have hv:v=0\/v=1:=by omega
      rcases hv with rfl|rfl
      ·exact hQ
      ·exact hQ
     ·have q4:1<v:=nf.1 q4
      obtain rfl:v=2:=by omega
      rw[<- List.append_assoc]
      exact hU
  ·have q:c.nodes.length<=i:=hfl ▸ bO.1 q
   obtain rfl:i=c.nodes.length:=by omega
   exact hU
end Go.Proofs.YtobphhjcadjfjaaDoor
