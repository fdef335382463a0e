/-
  P6, P7, Carg, Carg7, Case, W3, Kpr, W4, Uf, U1, P8, U2, U3, U4, Gat, Co1, Co2, Co3: parts of the proof.
-/
import Derived.Test.YtobphhjcadjfjaaDoorSf48
namespace Go.Proofs.YtobphhjcadjfjaaDoor
open Go.Abs
set_option maxRecDepth 100000
def gF (c:Circ) (i x:Nat):List Ln:=(c.nodes.zipIdx.take i).flatMap fun p=>bh x p.2 p.1.ins
theorem qQ (x i:Nat) (l:List Nat) (a:Nat):bh x i (l++[a])=bh x i l++(if a=x then [⟨i,l.length⟩] else []):=by
 unfold bh
 rw[List.zipIdx_append,List.filter_append,List.map_append]
 congr 1
 by_cases c:a=x
 ·simp[c]
 ·simp[c]
theorem mL {c:Circ}{i x:Nat}{y:Node} (hy:c.nodes[i]?=some y):gF c (i+1) x=gF c i x++bh x i y.ins:=by
 have h:c.nodes.zipIdx[i]?=some (y,i):=by rw[List.getElem?_zipIdx,hy];simp
 unfold gF
 obtain⟨h1,h2⟩:=List.getElem?_eq_some_iff.1 h
 rw[List.take_succ_eq_append_getElem h1,h2,List.flatMap_append]
 simp
theorem mS (x i:Nat) (l:List Nat):(bh x i l).length<=l.length:=by
 unfold bh
 rw[List.length_map]
 refine Nat.le_trans (List.length_filter_le _ _) ?_
 simp
structure FanPre (c:Circ):Prop where
 len:c.nodes.length<=16
 ins:∀ (i:Nat) (x:Node),c.nodes[i]?=some x->(∀ k∈x.ins,k<c.nodes.length)/\x.ins.length<=16
theorem pe {c:Circ} (g:FanPre c) (x:Nat):∀ i,i<=c.nodes.length->(gF c i x).length<=i*16
 |0,_=>by simp[gF]
 |i+1,h=>by
  obtain⟨y,hy⟩:=aX (l:=c.nodes) (i:=i) h
  rw[mL hy,List.length_append]
  have:=pe g x i (by omega)
  have:=mS x i y.ins
  have:=(g.ins i y hy).2
  omega
def dr (c:Circ) (i t:Nat) (ins:List Nat):List (List Ln):=(List.range c.nodes.length).map fun x=>gF c i x++bh x i (ins.take t)
theorem kV {c:Circ}{i t x:Nat}{ins:List Nat} (hx:x<c.nodes.length):(dr c i t ins)[x]?=some (gF c i x++bh x i (ins.take t)):=by
 unfold dr
 rw[List.getElem?_map,List.getElem?_range hx]
 rfl
theorem sO {c:Circ}{i t y:Nat}{ins:List Nat} (hy:ins[t]?=some y):(dr c i t ins).set y (gF c i y++bh y i (ins.take t)++[⟨i,t⟩])=dr c i (t+1) ins:=by
 have ht:=ag hy
 obtain⟨h1,h2⟩:=List.getElem?_eq_some_iff.1 hy
 have hs:∀ x,bh x i (ins.take (t+1))=bh x i (ins.take t)++(if y=x then [⟨i,t⟩] else []):=fun x=>by
  rw[List.take_succ_eq_append_getElem h1,h2,qQ,List.length_take,Nat.min_eq_left (Nat.le_of_lt ht)]
 apply List.ext_getElem?
 intro x
 rw[List.getElem?_set]
 have hl:(dr c i t ins).length=c.nodes.length:=by unfold dr;simp
 by_cases c1:x<c.nodes.length
 ·rw[kV c1,kV c1,hs x]
  by_cases e:y=x
  ·subst e
   rw[if_pos rfl,if_pos (by omega),if_pos rfl,List.append_assoc]
  ·rw[if_neg e,if_neg e,List.append_nil]
 ·have hn:∀ k,(dr c i k ins)[x]?=none:=fun k=>by
   refine List.getElem?_eq_none ?_
   unfold dr;simp;omega
  rw[hn,hn]
  by_cases e:y=x
  ·rw[if_pos e,if_neg (by omega)]
  ·rw[if_neg e]
theorem pL {c:Circ}{K:List (List Ln)->Prop} (g:FanPre c) (h:K (jZ c)):eO c K:=by
 have hlen:=g.len
 unfold eO
 refine⟨by omega,by omega,?_⟩
 refine aR (fun s=>s.2<=c.nodes.length/\s.1=dr c s.2 0 []) (fun s=>c.nodes.length-s.2) (fun a=>a=jZ c) ?_ ?_ ?_
 ·rintro k ⟨R,i⟩ nx ⟨hi,hR⟩ hnx hk
  dsimp only at hi hR
  subst hR
  refine⟨fun q=>?_,fun q=>?_⟩
  ·have q:=bG.1 q
   try dsimp only at q
   obtain⟨y,hy⟩:=aX q
   obtain⟨g1,g2⟩:=g.ins i y hy
   refine iJ ⟨y,hy,?_⟩
   refine bg (fun s=>s.2<=y.ins.length/\s.1=dr c i s.2 y.ins) (fun s=>y.ins.length-s.2) ?_ ⟨Nat.zero_le _,by unfold dr;simp⟩
   rintro⟨R1,t⟩ nx1 ⟨ht,hR⟩ hnx1
   dsimp only at ht hR
   subst hR
   refine⟨fun q1=>?_,fun q1=>?_⟩
   ·have q1:=bG.1 q1
    try dsimp only at q1
    obtain⟨z,hz⟩:=aX q1
    have hzn:=g1 z (List.mem_of_getElem? hz)
    have hb:=pe g z i hi
    have hb2:=mS z i (y.ins.take t)
    have hb3:(y.ins.take t).length<=16:=by rw[List.length_take];omega
    refine iJ ⟨z,hz,fun e=>absurd (bG.1 e) (Nat.not_lt_zero _),fun _=>⟨fun _=>?_,fun e=>?_⟩⟩
    ·refine⟨hzn,_,kV hzn,by simp only[List.length_append,List.length_singleton];omega,hzn,by omega,?_⟩
     rw[sO hz]
     exact hnx1 (dr c i (t+1) y.ins,t+1) ⟨q1,rfl⟩ (by dsimp only;omega)
    ·have e2:ltN z c.nodes.length=true:=bG.2 hzn
     rw[e2] at e
     cases e
   ·have q1:=bP.1 q1
    try dsimp only at q1
    refine⟨by omega,hnx (dr c i t y.ins,i+1) ⟨q,?_⟩ (by dsimp only;omega)⟩
    unfold dr
    refine List.map_congr_left fun x _=>?_
    rw[List.take_of_length_le q1,mL hy]
    simp[bh]
  ·have q:=bP.1 q
   try dsimp only at q
   have:i=c.nodes.length:=by omega
   subst this
   refine hk _ ?_
   unfold dr jZ
   refine List.map_congr_left fun x _=>?_
   unfold gF
   rw[List.take_of_length_le (by simp)]
   simp[bh]
 ·refine⟨Nat.zero_le _,?_⟩
  unfold dr
  apply List.ext_getElem?
  intro x
  rw[List.getElem?_replicate,List.getElem?_map]
  by_cases q:x<c.nodes.length
  ·rw[if_pos q,List.getElem?_range q]
   simp[gF,bh]
  ·rw[if_neg q,List.getElem?_eq_none (by simp;omega)]
   rfl
 ·rintro a rfl
  have hl:(jZ c).length=c.nodes.length:=by unfold jZ;simp
  refine aR (fun s=>s.2<=c.nodes.length/\s.1=jZ c) (fun s=>c.nodes.length-s.2) (fun a=>a=jZ c) ?_ ⟨Nat.zero_le _,rfl⟩ ?_
  ·rintro k ⟨R,i⟩ nx ⟨hi,hR⟩ hnx hk
   dsimp only at hi hR
   subst hR
   refine⟨fun q=>?_,fun _=>hk _ rfl⟩
   have q:=bG.1 q
   try dsimp only at q
   obtain⟨y,hy⟩:=aX (l:=jZ c) (i:=i) (by omega)
   refine⟨q,y,hy,q,by omega,hnx _ ⟨q,?_⟩ (by dsimp only;omega)⟩
   obtain⟨h1,rfl⟩:=List.getElem?_eq_some_iff.1 hy
   exact List.set_getElem_self h1
  ·rintro a rfl
   exact⟨hl.symm,h⟩
theorem wF {c:Circ} (g:FanPre c):FanOk c:=by
 refine FnV.nv (enc:=al 1 (al 2 bH)) (iK fun r=>ah.cons (iK fun l=>sP l) ah.nil) fun h hB=>?_
 exact nq (K:=fun r=>r=jZ c) (pL g rfl) hB
theorem tq:([0,1,2,3,4,5,6,7,8,9,10,11,12,13,14,15].all fun i=>isTrue (nj Tryd.prog [] (mw Tryd.prog) 60 89 #[.string (gS i)] (dv vars)))=true:=by kernel_rfl
theorem AY {i:Nat} (hi:i<16):yT (gS i):=by
 have hm:i∈[0,1,2,3,4,5,6,7,8,9,10,11,12,13,14,15]:=by
  have:i=0\/i=1\/i=2\/i=3\/i=4\/i=5\/i=6\/i=7\/i=8\/i=9\/i=10\/i=11\/i=12\/i=13\/i=14\/i=15:=by omega
  simpa using this
 obtain⟨h',e⟩:=oK (List.all_eq_true.1 tq i hm)
 have c:=(gk hM hP (fun f vs h v e=>ij f vs h v e) 60 _ _ _ _ _ e).1
 exact⟨PureV.oE rfl,fun h b=>c.lift (by kernel_rfl) rfl (kE (uQ b) (nC b))⟩
theorem ve:∀ i,i<16->∀ j,j<16->gS i=gS j->i=j:=by decide +kernel
theorem vo {l:List ByteArray}{x:ByteArray} (h:x ∉ l):bc (l.map fun s=>(s,true)) x=none:=by
 induction l with
 |nil=>rfl
 |cons a l ih =>
  simp only[List.mem_cons,not_or] at h
  rw[List.map_cons,bc,if_neg h.1]
  exact ih h.2
theorem wT {l:List ByteArray}{x:ByteArray} (h:x ∉ l):eB (l.map fun s=>(s,true)) x true=(l++[x]).map fun s=>(s,true):=by
 induction l with
 |nil=>rfl
 |cons a l ih =>
  simp only[List.mem_cons,not_or] at h
  rw[List.map_cons,eB,if_neg h.1,ih h.2]
  rfl
theorem lr {c:Circ}{K:Nat->Prop} (h1:∀ s∈c.names,yT s) (h2:c.names.Nodup) (h3:c.names.length<2 ^ 60) (h:K 0):fA c K:=by
 unfold fA
 refine aR (fun s=>s.2<=c.names.length/\s.1=(c.names.take s.2).map fun s=>(s,true)) (fun s=>c.names.length-s.2) (fun _=>True) ?_ ⟨Nat.zero_le _,by simp⟩ (fun _ _=>h)
 rintro k ⟨m,i⟩ nx ⟨hi,hR⟩ hnx hk
 dsimp only at hi hR
 subst hR
 refine⟨fun q=>?_,fun _=>hk () trivial⟩
 have q:=bG.1 q
 try dsimp only at q
 obtain⟨x,hx⟩:=aX q
 obtain⟨l1,l2⟩:=List.getElem?_eq_some_iff.1 hx
 have hnot:x ∉ c.names.take i:=fun mm=>by
  obtain⟨j,hj,e⟩:=List.getElem_of_mem mm
  rw[List.length_take] at hj
  rw[List.getElem_take] at e
  exact List.pairwise_iff_getElem.1 h2 j i (by omega) l1 (by omega) (e.trans l2.symm)
 refine⟨x,hx,iJ ⟨h1 x (List.mem_of_getElem? hx),(fun e=>by cases e),fun _=>?_⟩⟩
 rw[vo hnot]
 refine⟨(fun e=>by cases e),fun _=>⟨by omega,hnx _ ⟨q,?_⟩ (by dsimp only;omega)⟩⟩
 dsimp only
 rw[wT hnot,List.take_succ_eq_append_getElem l1,l2]
theorem xG {c:Circ}{n:Nat} (hn:n<=16) (hc:c.names=(List.range n).map gS):NamesOk c:=by
 refine FnV.nv (enc:=i64) (PureV.flat rfl) fun h hB=>?_
 refine jK (K:=fun r=>r=0) (lr ?_ ?_ ?_ rfl) hB
 ·intro s m
  rw[hc] at m
  obtain⟨i,hi,rfl⟩:=List.mem_map.1 m
  exact AY (by have:=List.mem_range.1 hi;omega)
 ·rw[hc]
  unfold List.Nodup
  rw[List.pairwise_map]
  refine List.Pairwise.imp_of_mem ?_ (List.nodup_range (n:=n))
  intro a b ha hb hne e
  exact hne (ve a (by have:=List.mem_range.1 ha;omega) b (by have:=List.mem_range.1 hb;omega) e)
 ·rw[hc];simp;omega
theorem eS {first:Nat}{d:Nat->Nat}{ns:List Node}:∀ i,(jY first d i ns).length=ns.length
 |0=>rfl
 |i+1=>by rw[jY,List.length_set,eS i]
theorem lB {first:Nat}{d:Nat->Nat}{ns:List Node}{j:Nat}:∀ {i},first+i<=j->(jY first d i ns)[j]?=ns[j]?
 |0,_=>rfl
 |i+1,h=>by
  rw[jY,List.getElem?_set_ne (by omega)]
  exact lB (by omega)
theorem ml (x:CData):0<(bV x).length:=by
 rw[eU];omega
theorem As {α:Type}{a:α}{first:(α->Prop)->Prop}{rest:α->Prop} (h1:rest a->first rest) (h2:rest a):ar first rest:=h1 h2
structure CB (x:CData):Prop where
 inp:x.inp<256
 dffs:x.dffs<256
 data0:x.data0<256
 data1:x.data1<256
 port0:x.port0<256
 port1:x.port1<256
 port2:x.port2<256
 port3:x.port3<256
 gates:∀ g∈x.gates,GOk g
 outs:∀ o∈x.outs,o<256
theorem nX {n:Nat} (hn:n<=16) {rest:List ByteArray->Prop} (h:rest ((List.range n).map gS)) :
  ar (α:=(List ByteArray)) (fun k=>aM (S:=((List ByteArray)×Nat)) (fun (v,i) nx=>((ltN i n)=true->eM i (fun r=>(v.length+([r]:(List ByteArray)).length)*16<=2 ^ 47/\i+1<2 ^ 63/\nx ((v++([r]:(List ByteArray))),(i+1))))/\((ltN i n)=false->k v)) (([]:List ByteArray),0)) rest:=by
 refine aR (fun s=>s.2<=n/\s.1=(List.range s.2).map gS) (fun s=>n-s.2) (fun a=>a=(List.range n).map gS) ?_ ⟨Nat.zero_le _,rfl⟩ (fun a e=>by rw[e];exact h)
 rintro k ⟨l,i⟩ nx ⟨hi,hl⟩ hnx hk
 dsimp only at hi hl
 subst hl
 refine⟨fun q=>?_,fun q=>?_⟩
 ·have q:=bG.1 q
  try dsimp only at q
  refine⟨by omega,by simp only[List.length_map,List.length_range,List.length_singleton];omega,by omega,hnx _ ⟨by dsimp only;omega,?_⟩ (by dsimp only;omega)⟩
  dsimp only
  rw[List.range_succ,List.map_append];rfl
 ·have q:=bP.1 q
  try dsimp only at q
  have:i=n:=by omega
  subst this
  exact hk _ rfl
theorem qF {n:Nat} (hpos:0<n) {outs:List Nat} (ho:∀ o∈outs,o<256) {rest:List Nat->Prop} (h:rest ((outs.take 3).map (· % n))) :
  ar (α:=(List Nat)) (fun k=>aM (S:=((List Nat)×Nat)) (fun (v,i) nx=>ar (α:=Bool) (fun k2=>((ltN i outs.length)=true->k2 (ltN i 3))/\((ltN i outs.length)=false->k2 false)) (fun w=>(w=true->∃ x,outs[i]?=some x/\x<256/\0<n/\(v.length+([(x%n)]:(List Nat)).length)*8<=2 ^ 47/\i+1<2 ^ 63/\nx ((v++([(x%n)]:(List Nat))),(i+1)))/\(w=false->k v))) (([]:List Nat),0)) rest:=by
 refine aR (fun s=>s.2<=min outs.length 3/\s.1=(outs.take s.2).map (· % n)) (fun s=>min outs.length 3-s.2) (fun a=>a=(outs.take 3).map (· % n)) ?_ ⟨Nat.zero_le _,by simp⟩ (fun a e=>by rw[e];exact h)
 rintro k ⟨l,i⟩ nx ⟨hi,hl⟩ hnx hk
 dsimp only at hi hl
 subst hl
 have hi3:i<=3:=Nat.le_trans hi (Nat.min_le_right _ _)
 have hil:i<=outs.length:=Nat.le_trans hi (Nat.min_le_left _ _)
 have hlen:((outs.take i).map (· % n)).length=i:=by rw[List.length_map,List.length_take];omega
 have stop:¬ (i<outs.length/\i<3)->k ((outs.take i).map (· % n)):=fun q=>by
  refine hk _ ?_
  by_cases c:i=3
  ·rw[c]
  ·rw[List.take_of_length_le (by omega),List.take_of_length_le (by omega)]
 refine iJ ⟨fun q=>⟨fun q2=>?_,fun q2=>stop fun e=>absurd e.2 (by have:=bP.1 q2;omega)⟩,fun q=>⟨(fun e=>by cases e),fun _=>stop fun e=>absurd e.1 (by have:=bP.1 q;(try dsimp only at this);omega)⟩⟩
 have q:=bG.1 q
 have q2:=bG.1 q2
 try dsimp only at q q2
 obtain⟨o,hoo⟩:=aX q
 obtain⟨l1,l2⟩:=List.getElem?_eq_some_iff.1 hoo
 refine⟨o,hoo,ho _ (List.mem_of_getElem? hoo),hpos,by rw[hlen];simp only[List.length_singleton];omega,by omega,hnx _ ⟨by dsimp only;omega,?_⟩ (by dsimp only;omega)⟩
 dsimp only
 rw[List.take_succ_eq_append_getElem l1,l2,List.map_append];rfl
theorem uf {x:CData}{K:Circ->Prop} (hx:CB x) (h:K (dZ x)):eX x K:=by
 have h4:=Nat.mod_lt x.inp (show 0<4 by decide)
 have h3:=Nat.mod_lt x.dffs (show 0<3 by decide)
 have hpos:=ml x
 have hle:=uC x
 have hbase:(dU x.inp x.dffs x.mem).length<=8:=by rw[ew];split <;> omega
 have hbase1:0<(dU x.inp x.dffs x.mem).length:=by rw[ew];omega
 unfold eX
 refine aR (fun s=>s.2<=x.inp%4+1/\s.1=List.replicate s.2 eF) (fun s=>x.inp%4+1-s.2) (fun a=>a=List.replicate (x.inp%4+1) eF) ?_ ⟨Nat.zero_le _,rfl⟩ ?_
 ·rintro k ⟨l,i⟩ nx ⟨hi,hl⟩ hnx hk
  dsimp only at hi hl
  subst hl
  refine⟨by decide,by omega,fun q=>?_,fun q=>?_⟩
  ·have q:=qH.1 q
   try dsimp only at q
   refine⟨by simp only[List.length_replicate,List.length_singleton];omega,by omega,hnx _ ⟨by dsimp only;omega,?_⟩ (by dsimp only;omega)⟩
   dsimp only
   rw[List.replicate_succ'];rfl
  ·have q:=qt.1 q
   try dsimp only at q
   have:i=x.inp%4+1:=by omega
   subst this
   exact hk _ rfl
 rintro a rfl
 refine⟨by decide,by omega,?_⟩
 refine aR (fun s=>s.2<=x.dffs%3/\s.1=List.replicate (x.inp%4+1) eF++List.replicate s.2 (lH 0)) (fun s=>x.dffs%3-s.2) (fun a=>a=List.replicate (x.inp%4+1) eF++List.replicate (x.dffs%3) (lH 0)) ?_ ⟨Nat.zero_le _,by simp⟩ ?_
 ·rintro k ⟨l,i⟩ nx ⟨hi,hl⟩ hnx hk
  dsimp only at hi hl
  subst hl
  refine⟨fun q=>?_,fun q=>?_⟩
  ·have q:=bG.1 q
   try dsimp only at q
   refine⟨by simp only[List.length_append,List.length_replicate,List.length_singleton];omega,by omega,hnx _ ⟨by dsimp only;omega,?_⟩ (by dsimp only;omega)⟩
   dsimp only
   rw[List.replicate_succ' (n:=i),<- List.append_assoc];rfl
  ·have q:=bP.1 q
   try dsimp only at q
   have:i=x.dffs%3:=by omega
   subst this
   exact hk _ rfl
 rintro a rfl
 refine As (a:=dU x.inp x.dffs x.mem) (fun F=>⟨fun q=>?_,fun q=>?_⟩) ?_
 ·refine⟨by simp only[List.length_append,List.length_replicate,List.length_cons,List.length_nil];omega,?_⟩
  rw[show dU x.inp x.dffs x.mem=List.replicate (x.inp%4+1) eF++List.replicate (x.dffs%3) (lH 0)++[vd 0,vd 1] by unfold dU;rw[q];rfl] at F
  exact F
 ·rw[show dU x.inp x.dffs x.mem=List.replicate (x.inp%4+1) eF++List.replicate (x.dffs%3) (lH 0) by unfold dU;rw[q];simp] at F
  exact F
 refine aR (fun s=>s.2<=min x.gates.length 8/\s.1=dc x.bus x.gates (dU x.inp x.dffs x.mem) s.2) (fun s=>min x.gates.length 8-s.2) (fun a=>a=bV x) ?_ ⟨Nat.zero_le _,rfl⟩ ?_
 ·rintro k ⟨l,i⟩ nx ⟨hi,hl⟩ hnx hk
  dsimp only at hi hl
  subst hl
  have hgl:i<=x.gates.length:=Nat.le_trans hi (Nat.min_le_left _ _)
  have hN:=dB x.bus x.gates (dU x.inp x.dffs x.mem) i hgl
  have hi8:i<=8:=Nat.le_trans hi (Nat.min_le_right _ _)
  have stop:¬ (i<x.gates.length/\i<8)->k (dc x.bus x.gates (dU x.inp x.dffs x.mem) i):=fun q=>by
   have:i=min x.gates.length 8:=by omega
   exact hk _ (by rw[this];rfl)
  refine iJ ⟨fun q=>⟨fun q2=>?_,fun q2=>stop fun e=>absurd e.2 (by have:=bP.1 q2;omega)⟩,fun q=>⟨(fun e=>by cases e),fun _=>stop fun e=>absurd e.1 (by have:=bP.1 q;(try dsimp only at this);omega)⟩⟩
  have q:=bG.1 q
  have q2:=bG.1 q2
  try dsimp only at q q2
  obtain⟨gd,hg⟩:=aX q
  refine⟨gd,hg,hx.gates _ (List.mem_of_getElem? hg),by omega,by omega,by simp only[List.length_singleton];omega,by omega,hnx _ ⟨by dsimp only;omega,?_⟩ (by dsimp only;omega)⟩
  dsimp only
  rw[jw hg]
 rintro a rfl
 have hfirst:(List.replicate (x.inp%4+1) eF).length=x.inp%4+1:=List.length_replicate
 refine aR (fun s=>s.2<=x.dffs%3/\s.1=jY (x.inp%4+1) (kr x (bV x).length) s.2 (bV x)) (fun s=>x.dffs%3-s.2) (fun a=>a=jY (x.inp%4+1) (kr x (bV x).length) (x.dffs%3) (bV x)) ?_ ⟨Nat.zero_le _,rfl⟩ ?_
 ·rintro k ⟨l,i⟩ nx ⟨hi,hl⟩ hnx hk
  dsimp only at hi hl
  subst hl
  refine⟨fun q=>?_,fun q=>?_⟩
  ·have q:=bG.1 q
   try dsimp only at q
   have hget:(jY (x.inp%4+1) (kr x (bV x).length) i (bV x))[(List.replicate (x.inp%4+1) eF).length+i]?=some (lH 0):=by
    rw[hfirst,lB (Nat.le_refl _)]
    exact rW q
   have step:∀ d,d=kr x (bV x).length i->nx ((jY (x.inp%4+1) (kr x (bV x).length) i (bV x)).set ((List.replicate (x.inp%4+1) eF).length+i) { lH 0 with ins:=[d] },i+1):=fun d e=>by
    refine hnx _ ⟨by dsimp only;omega,?_⟩ (by dsimp only;omega)
    dsimp only
    rw[hfirst,e]
    rfl
   refine⟨by omega,by omega,fun e=>⟨hx.data0,hpos,_,hget,by omega,step _ ?_⟩,fun e=>⟨hx.data1,hpos,_,hget,by omega,step _ ?_⟩⟩
   ·unfold kr;rw[if_pos e]
   ·unfold kr;rw[if_neg (by omega)]
  ·have q:=bP.1 q
   try dsimp only at q
   have:i=x.dffs%3:=by omega
   subst this
   exact hk _ rfl
 rintro a rfl
 have hol:((x.outs.take 3).map (· % (bV x).length)).length<=3:=by rw[List.length_map,List.length_take];omega
 unfold dZ at h
 refine⟨fun q=>⟨hx.port0,hpos,hx.port1,hpos,hx.port2,hpos,hx.port3,hpos,nX hle (qF hpos hx.outs ⟨hpos,by omega,by simp only[List.length_singleton];omega,rfl,rfl,rfl,rfl,?_⟩)⟩,fun q=>nX hle (qF hpos hx.outs ⟨hpos,by omega,by simp only[List.length_singleton];omega,?_⟩)⟩
 ·rw[q] at h;exact h
 ·rw[q] at h;exact h
def shB:Sh:=.int .u8
def shG:Sh:=.pair shB (.pair (.pair shB (.pair shB (.pair shB .unit))) .unit)
def shC:Sh:=.pair shB (.pair shB (.pair (.pair shB (.pair shB .unit)) (.pair .bool (.pair .bool (.pair (.pair shB (.pair shB (.pair shB (.pair shB .unit)))) (.pair (.slice shG) (.pair (.slice shB) .unit)))))))
theorem dh {a:Int} (w:shB.wf a):∃ n:Nat,n<256/\a=Int.ofNat n:=by
 have h:=wZ w
 exact⟨a.toNat,by omega,by simp;omega⟩
theorem rm {α β:Type}{f:α->Value}{g:β->Value}{p:β->Prop}:∀ (l:List α),(∀ x∈l,∃ y,p y/\f x=g y)->∃ m:List β,(∀ y∈m,p y)/\l.map f=m.map g/\m.length=l.length
 |[],_=>⟨[],(fun _ h=>by cases h),rfl,rfl⟩
 |x::l,h=>by
  obtain⟨y,h1,h2⟩:=h x (by simp)
  obtain⟨m,h3,h4,h5⟩:=rm l fun z hz=>h z (by simp[hz])
  refine⟨y::m,fun z hz=>?_,by simp[h2,h4],by simp[h5]⟩
  rcases List.mem_cons.1 hz with rfl|hz
  ·exact h1
  ·exact h3 z hz
theorem vB {l:List Int} (w:(Sh.slice shB).wf l):∃ m:List Nat,(∀ v∈m,v<256)/\(Sh.slice shB).ba l=[al 1 n8 m]:=by
 obtain⟨_,w2⟩:=w
 obtain⟨m,h1,h2,_⟩:=rm (f:=fun x=>elV shB.one (shB.ba x)) (g:=n8) (p:=(· < 256)) l fun x hx=>by
  obtain⟨n,q1,rfl⟩:=dh (w2 x hx)
  exact⟨n,q1,rfl⟩
 refine⟨m,h1,?_⟩
 ·show [FL 1 (l.map fun x=>elV shB.one (shB.ba x))]=_
  rw[h2];rfl
theorem vC {l:List shG.Den} (w:(Sh.slice shG).wf l):∃ m:List GData,(∀ v∈m,GOk v)/\(Sh.slice shG).ba l=[FL 4 (m.map tt)]:=by
 obtain⟨_,w2⟩:=w
 obtain⟨m,h1,h2,_⟩:=rm (f:=fun x=>elV shG.one (shG.ba x)) (g:=tt) (p:=GOk) l fun x hx=>by
  obtain⟨k,⟨a,b,d,u⟩,u2⟩:=x
  obtain⟨w1,⟨wa,wb,wd,_⟩,_⟩:=w2 _ hx
  obtain⟨k,q1,rfl⟩:=dh w1
  obtain⟨a,q2,rfl⟩:=dh wa
  obtain⟨b,q3,rfl⟩:=dh wb
  obtain⟨d,q4,rfl⟩:=dh wd
  exact⟨⟨k,a,b,d⟩,⟨q1,q2,q3,q4⟩,rfl⟩
 refine⟨m,h1,?_⟩
 ·show [FL 4 (l.map fun x=>elV shG.one (shG.ba x))]=_
  rw[h2]
theorem AK {x:shC.Den} (w:shC.wf x):∃ y:CData,CB y/\elV (!true) (shC.ba x)=bl y:=by
 obtain⟨i,f,⟨d0,d1,u1⟩,bu,me,⟨p0,p1,p2,p3,u2⟩,gs,os,u3⟩:=x
 obtain⟨wi,wf,⟨wd0,wd1,_⟩,_,_,⟨wp0,wp1,wp2,wp3,_⟩,wg,wo,_⟩:=w
 obtain⟨i,qi,rfl⟩:=dh wi
 obtain⟨f,qf,rfl⟩:=dh wf
 obtain⟨d0,qd0,rfl⟩:=dh wd0
 obtain⟨d1,qd1,rfl⟩:=dh wd1
 obtain⟨p0,qp0,rfl⟩:=dh wp0
 obtain⟨p1,qp1,rfl⟩:=dh wp1
 obtain⟨p2,qp2,rfl⟩:=dh wp2
 obtain⟨p3,qp3,rfl⟩:=dh wp3
 obtain⟨g,g1,g3⟩:=vC wg
 obtain⟨o,o1,o3⟩:=vB wo
 refine⟨⟨i,f,d0,d1,bu,me,p0,p1,p2,p3,g,o⟩,⟨qi,qf,qd0,qd1,qp0,qp1,qp2,qp3,g1,o1⟩,?_⟩
 show Value.agg ⟨[n8 i,n8 f,n8 d0,n8 d1,.bool bu,.bool me,n8 p0,n8 p1,n8 p2,n8 p3]++((Sh.slice shG).ba gs++((Sh.slice shB).ba os++[]))⟩=_
 rw[g3,o3]
 rfl
structure FB (z:FData):Prop where
 model:z.model<256
 node:z.node<256
 pin:z.pin<256
 other:z.other<256
structure PData where
 inp:List Nat
 state:List Nat
structure PB (z:PData):Prop where
 inp:∀ v∈z.inp,v<256
 state:∀ v∈z.state,v<256
structure CaseD where
 c:CData
 f:List FData
 p:List PData
structure CaseB (x:CaseD):Prop where
 c:CB x.c
 f:∀ z∈x.f,FB z
 p:∀ z∈x.p,PB z
set_option maxHeartbeats 8000000
def fj (p0:Circ) (p1:List Flt) (p2:List Nat) (K:List Nat×Nat->Prop):Prop:=bm p0 p1 (p2.map Int.ofNat) K
theorem iO {p0:Circ}{p1:List Flt}{p2:List Nat}{K:List Nat×Nat->Prop} (hm:fj p0 p1 p2 K) {h0:Heap} (hB:HasB vars h0):∃ r,K r/\CallD Tryd.prog NG 21 ⟨[aA p0,(al 5 aC) p1,(al 1 i64) p2]⟩ h0 ((fun (r:List Nat×Nat)=>Value.tuple ⟨[(aI 1 i64) (r.1),i64 (r.2)]⟩) r) h0:=by
 have e:al 1 z64 (p2.map Int.ofNat)=al 1 i64 p2:=by unfold al;rw[List.map_map];rfl
 rw[<- e]
 exact iG hm hB
def bU  (K:(Circ×(List Flt))->Prop):Prop :=
 eP (⟨([(⟨0,([]:(List Nat)),0,0⟩:Node),(⟨0,([]:(List Nat)),0,0⟩:Node),(⟨5,([0,1]:(List Nat)),0,0⟩:Node)]:(List Node)),([(⟨#[97]⟩:ByteArray),(⟨#[98]⟩:ByteArray),(⟨#[121]⟩:ByteArray)]:(List ByteArray)),([]:(List Memo)),([2]:(List Nat))⟩:Circ) 0 (fun r5=>K ((⟨([(⟨0,([]:(List Nat)),0,0⟩:Node),(⟨0,([]:(List Nat)),0,0⟩:Node),(⟨5,([0,1]:(List Nat)),0,0⟩:Node)]:(List Node)),([(⟨#[97]⟩:ByteArray),(⟨#[98]⟩:ByteArray),(⟨#[121]⟩:ByteArray)]:(List ByteArray)),[],([2]:(List Nat))⟩:Circ),r5.1))
theorem gD  {K:(Circ×(List Flt))->Prop} (hm:bU  K) {h0:Heap} (hB:HasB vars h0):∃ r,K r/\CallD Tryd.prog NG 19 ⟨[]⟩ h0 ((fun (r:(Circ×(List Flt)))=>Value.tuple ⟨[aA (r.1),(al 5 aC) (r.2)]⟩) r) h0:=by
 unfold bU at hm
 refine fw Tryd.func19 hB (enc:=(fun (r:(Circ×(List Flt)))=>Value.tuple ⟨[aA (r.1),(al 5 aC) (r.2)]⟩)) (fun r=>PureV.tup (ah.cons (jS _) (ah.cons (iK (fun _=>mf _)) (ah.nil)))) fun O=>?_;conv=>whnf
 refine gX ?_
 refine O.new (ak (l:=[(.slice none 0 0),(.slice none 0 0),(.slice none 0 0),(.slice none 0 0)]) rfl rfl rfl) fun g1 h O=>?_;refine gH ?_
 refine gX ?_
 refine fz ?_;refine gH ?_
 refine NewG.frzW rfl (VLe.els (s:=4) (es':=([(⟨0,([]:(List Nat)),0,0⟩:Node),(⟨0,([]:(List Nat)),0,0⟩:Node),(⟨5,([0,1]:(List Nat)),0,0⟩:Node)]).map ai) rfl (bO (enc:=ai) (s:=4) (fun _=>rfl) _) (LLe.cons (VLe.refl _ _) (LLe.cons (VLe.nil _ _) (LLe.cons (VLe.refl _ _) (LLe.cons (VLe.refl _ _) (LLe.cons (VLe.refl _ _) (LLe.cons (VLe.nil _ _) (LLe.cons (VLe.refl _ _) (LLe.cons (VLe.refl _ _) (LLe.cons (VLe.refl _ _) (LLe.cons (VLe.refl _ _) (LLe.cons (VLe.refl _ _) (LLe.cons (VLe.refl _ _) (LLe.nil _)))))))))))))) ?_;refine gH ?_
 refine fz ?_;refine gH ?_
 refine fz ?_;refine gH ?_
 refine O.new (ak (l:=[(.slice none 0 0),(.slice none 0 0),(.slice none 0 0),(.slice none 0 0)]) rfl rfl rfl) fun g3 h O=>?_;refine gH ?_
 refine O.stC 4 (.head _) [((al 4 ai) ([(⟨0,([]:(List Nat)),0,0⟩:Node),(⟨0,([]:(List Nat)),0,0⟩:Node),(⟨5,([0,1]:(List Nat)),0,0⟩:Node)]:(List Node))),((al 1 Value.string) ([(⟨#[97]⟩:ByteArray),(⟨#[98]⟩:ByteArray),(⟨#[121]⟩:ByteArray)]:(List ByteArray))),(.slice none 0 0),((al 1 i64) ([2]:(List Nat)))] fun h O=>?_;refine gX ?_
 refine ldA (O.at (.head _)) ?_;refine gH ?_
 refine caW (iL hm O.has) (LLe.cons (VLe.agg (LLe.cons (VLe.refl _ _) (LLe.cons (VLe.refl _ _) (LLe.cons (VLe.nil _ _) (LLe.cons (VLe.refl _ _) (LLe.nil _)))))) (LLe.cons (VLe.refl _ _) (LLe.nil _))) fun r5 hm=>?_;refine gX ?_
 refine ldA (O.at (.head _)) ?_;refine gH ?_
 refine O.stC 4 (.tail _ (.head _)) [((al 4 ai) ([(⟨0,([]:(List Nat)),0,0⟩:Node),(⟨0,([]:(List Nat)),0,0⟩:Node),(⟨5,([0,1]:(List Nat)),0,0⟩:Node)]:(List Node))),((al 1 Value.string) ([(⟨#[97]⟩:ByteArray),(⟨#[98]⟩:ByteArray),(⟨#[121]⟩:ByteArray)]:(List ByteArray))),(.slice none 0 0),((al 1 i64) ([2]:(List Nat)))] fun h O=>?_;refine gX ?_
 refine⟨_,aT rfl rfl (O.at (.tail _ (.head _))) rfl rfl (lbE rfl) rfl,?_⟩;conv=>whnf
 exact⟨((⟨([(⟨0,([]:(List Nat)),0,0⟩:Node),(⟨0,([]:(List Nat)),0,0⟩:Node),(⟨5,([0,1]:(List Nat)),0,0⟩:Node)]:(List Node)),([(⟨#[97]⟩:ByteArray),(⟨#[98]⟩:ByteArray),(⟨#[121]⟩:ByteArray)]:(List ByteArray)),[],([2]:(List Nat))⟩:Circ),r5.1),hm,O.ext,fun h2 F=>VLe.tup (LLe.cons (VLe.agg (LLe.cons (VLe.refl _ _) (LLe.cons (VLe.refl _ _) (LLe.cons (VLe.nil _ _) (LLe.cons (VLe.refl _ _) (LLe.nil _)))))) (LLe.cons (VLe.refl _ _) (LLe.nil _)))⟩
def aw (p0:(List Nat)) (p1:(List Nat)) (K:Bool->Prop):Prop :=
 ar (α:=Bool) (fun k2=>((neN p0.length p1.length)=true->k2 true)/\((neN p0.length p1.length)=false->k2 (neN p0.length p0.length))) (fun v1=>(v1=true->K false)/\(v1=false->ar (α:=Unit) (fun k3=>aM (S:=Nat) (fun v4 nx5=>((ltN v4 p0.length)=true->∃ x6,p0[v4]?=some x6/\∃ x7,p1[v4]?=some x7/\((neN x6 x7)=true->K false)/\((neN x6 x7)=false->v4+1<2 ^ 63/\nx5 (v4+1)))/\((ltN v4 p0.length)=false->k3 ())) 0) (fun _=>K true)))
theorem aU {p0:(List Nat)}{p1:(List Nat)}{K:Bool->Prop} (hm:aw p0 p1 K) {h0:Heap} (hB:HasB vars h0):∃ r,K r/\CallD Tryd.prog NG 22 ⟨[(aI 1 i64) p0,(al 1 i64) p1]⟩ h0 (Value.bool r) h0:=by
 unfold aw at hm
 refine fw Tryd.func22 hB (enc:=Value.bool) (fun r=>PureV.flat rfl) fun O=>?_;conv=>whnf
 apply Cs;conv=>whnf
 apply Cs;refine gH ?_
 apply Cs;conv=>whnf
 refine jn hm 33 [0,1] (fun s=>s) (fun v1 h=>Own vars h0 [] h) (fun v1=>[(17,(.bool v1))]) (fun hm=>?_) ?_
 ·refine gX ?_
  refine lmC ?_;refine gH ?_
  refine br hm (fun hm=>?_) fun hm=>?_
  ·refine gX ?_
   exact jx true hm O
  ·refine gX ?_
   refine cpC ?_;refine gH ?_
   refine lmC ?_;refine gH ?_
   exact jx (neN p0.length p0.length) hm O
 ·clear hm;rintro v1 base h hm O
  refine gX ?_
  refine br hm (fun hm=>?_) fun hm=>?_
  ·refine gX ?_
   exact fe hm O
  ·apply Cs;conv=>whnf
   refine jn hm 33 [] (fun s=>s) (fun _ h=>Own vars h0 [] h) (fun _=>[]) (fun hm=>?_) ?_
   ·refine gX ?_
    refine lw 33 [0,1] (σ:=Nat) (fun s=>s) (fun v4 h=>Own vars h0 [] h) (fun v4=>[(5,(i64 v4))]) 0 hm O ?_
    clear hm;rintro v4 nx5 base h hm O
    refine gX ?_
    refine lmC ?_;refine gX ?_
    refine br hm (fun hm=>?_) fun hm=>?_
    ·refine gX ?_
     refine atC hm fun x6 hx6 hm=>?_;refine gH ?_
     refine atF hm fun x7 hx7 hm=>?_;refine gX ?_
     refine br hm (fun hm=>?_) fun hm=>?_
     ·refine gX ?_
      exact fe hm O
     ·refine gX ?_
      refine bE hm fun hm=>?_;refine gH ?_
      exact jx (v4+1) hm O
    ·refine gX ?_
     exact jx () hm O
   ·clear hm;rintro _ base h hm O
    refine gX ?_
    exact fe hm O
def bn  (K:Bool->Prop):Prop :=
 bU  (fun r1=>bp r1.1 r1.2 (fun r4=>aZ r1.1 r1.2 (fun r5=>cv r1.1 r1.2 (fun r6=>fj r1.1 r1.2 ([7]:(List Nat)) (fun r7=>ar (α:=Bool) (fun k9=>((neN r4.2 0)=true->k9 true)/\((neN r4.2 0)=false->((neN r5.2 0)=true->k9 true)/\((neN r5.2 0)=false->((neN r6.2 0)=true->k9 true)/\((neN r6.2 0)=false->((neN r7.2 0)=true->k9 true)/\((neN r7.2 0)=false->((neN r4.1.length 4)=true->k9 true)/\((neN r4.1.length 4)=false->k9 (neN r5.1.length 2))))))) (fun v8=>(v8=true->K false)/\(v8=false->∃ x10,r4.1[0]?=some x10/\aw x10 ([0,2,4,6,8]:(List Nat)) (fun r11=>(r11=true->∃ x12,r4.1[1]?=some x12/\aw x12 ([1,7]:(List Nat)) (fun r13=>(r13=true->∃ x14,r4.1[2]?=some x14/\aw x14 ([3,9]:(List Nat)) (fun r15=>(r15=true->∃ x16,r4.1[3]?=some x16/\aw x16 ([5]:(List Nat)) (fun r17=>(r17=true->∃ x18,r5.1[0]?=some x18/\(((eqN x18.a 1)&&((eqN x18.b 3)&&true))=true->∃ x19,r5.1[1]?=some x19/\(((eqN x19.a 2)&&((eqN x19.b 3)&&true))=true->aw r6.1 ([0,1,3]:(List Nat)) (fun r20=>(r20=true->aw r7.1 ([1,5,7]:(List Nat)) (fun r21=>K r21))/\(r20=false->K false)))/\(((eqN x19.a 2)&&((eqN x19.b 3)&&true))=false->K false))/\(((eqN x18.a 1)&&((eqN x18.b 3)&&true))=false->K false))/\(r17=false->K false)))/\(r15=false->K false)))/\(r13=false->K false)))/\(r11=false->K false)))))))))
theorem fY  {K:Bool->Prop} (hm:bn  K) {h0:Heap} (hB:HasB vars h0):∃ r,K r/\CallD Tryd.prog NG 9 ⟨[]⟩ h0 (Value.bool r) h0:=by
 unfold bn at hm
 refine fw Tryd.func9 hB (enc:=Value.bool) (fun r=>PureV.flat rfl) fun O=>?_;conv=>whnf
 refine gX ?_
 refine ca (gD hm O.has) fun r1 hm=>?_;refine gH ?_
 refine O.new (ak (l:=[nS,nS,nS,nS]) rfl rfl rfl) fun g2 h O=>?_;refine gH ?_
 refine O.stC 4 (.head _) [((al 4 ai) r1.1.nodes),((al 1 Value.string) r1.1.names),((al 3 az) r1.1.mems),((al 1 i64) r1.1.outs)] fun h O=>?_;refine gX ?_
 refine ldA (O.at (.head _)) ?_;refine gH ?_
 refine ca (ee hm O.has) fun r4 hm=>?_;refine gX ?_
 refine ldA (O.at (.head _)) ?_;refine gH ?_
 refine ca (dn hm O.has) fun r5 hm=>?_;refine gX ?_
 refine ldA (O.at (.head _)) ?_;refine gH ?_
 refine ca (jW hm O.has) fun r6 hm=>?_;refine gX ?_
 refine ldA (O.at (.head _)) ?_;refine gH ?_
 refine fz ?_;refine gH ?_
 refine ca (iO hm O.has) fun r7 hm=>?_;refine gH ?_
 apply Cs;conv=>whnf
 refine jn hm 114 [3,5,7,9] (fun s=>s) (fun v8 h=>Own vars h0 [] h) (fun v8=>[(63,(.bool v8))]) (fun hm=>?_) ?_
 ·refine gX ?_
  refine br hm (fun hm=>?_) fun hm=>?_
  ·refine gX ?_
   refine bt ?_;refine gH ?_
   refine bt ?_;refine gH ?_
   refine bt ?_;refine gH ?_
   refine bt ?_;refine gH ?_
   exact jx true hm (O.sel [] (by decide))
  ·refine gX ?_
   refine br hm (fun hm=>?_) fun hm=>?_
   ·refine gX ?_
    refine bt ?_;refine gH ?_
    refine bt ?_;refine gH ?_
    refine bt ?_;refine gH ?_
    exact jx true hm (O.sel [] (by decide))
   ·refine gX ?_
    refine br hm (fun hm=>?_) fun hm=>?_
    ·refine gX ?_
     refine bt ?_;refine gH ?_
     refine bt ?_;refine gH ?_
     exact jx true hm (O.sel [] (by decide))
    ·refine gX ?_
     refine br hm (fun hm=>?_) fun hm=>?_
     ·refine gX ?_
      refine bt ?_;refine gH ?_
      exact jx true hm (O.sel [] (by decide))
     ·refine gX ?_
      refine lmC ?_;refine gH ?_
      refine br hm (fun hm=>?_) fun hm=>?_
      ·refine gX ?_
       exact jx true hm (O.sel [] (by decide))
      ·refine gX ?_
       exact jx (neN r5.1.length 2) hm (O.sel [] (by decide))
 ·clear hm;rintro v8 base h hm O
  refine gX ?_
  refine br hm (fun hm=>?_) fun hm=>?_
  ·refine gX ?_
   exact fe hm O
  ·refine gX ?_
   refine atC hm fun x10 hx10 hm=>?_;refine gH ?_
   refine fz ?_;refine gH ?_
   refine ca (aU hm O.has) fun r11 hm=>?_;refine gH ?_
   refine br hm (fun hm=>?_) fun hm=>?_
   ·refine gX ?_
    refine atC hm fun x12 hx12 hm=>?_;refine gH ?_
    refine fz ?_;refine gH ?_
    refine ca (aU hm O.has) fun r13 hm=>?_;refine gH ?_
    refine br hm (fun hm=>?_) fun hm=>?_
    ·refine gX ?_
     refine atC hm fun x14 hx14 hm=>?_;refine gH ?_
     refine fz ?_;refine gH ?_
     refine ca (aU hm O.has) fun r15 hm=>?_;refine gH ?_
     refine br hm (fun hm=>?_) fun hm=>?_
     ·refine gX ?_
      refine atC hm fun x16 hx16 hm=>?_;refine gH ?_
      refine fz ?_;refine gH ?_
      refine ca (aU hm O.has) fun r17 hm=>?_;refine gH ?_
      refine br hm (fun hm=>?_) fun hm=>?_
      ·refine gX ?_
       refine atF hm fun x18 hx18 hm=>?_;refine gH ?_
       refine⟨.bool ((eqN x18.a 1)&&((eqN x18.b 3)&&true)),by kernel_rfl,?_⟩;refine gH ?_
       refine br hm (fun hm=>?_) fun hm=>?_
       ·refine gX ?_
        refine atF hm fun x19 hx19 hm=>?_;refine gH ?_
        refine⟨.bool ((eqN x19.a 2)&&((eqN x19.b 3)&&true)),by kernel_rfl,?_⟩;refine gH ?_
        refine br hm (fun hm=>?_) fun hm=>?_
        ·refine gX ?_
         refine fz ?_;refine gH ?_
         refine ca (aU hm O.has) fun r20 hm=>?_;refine gH ?_
         refine br hm (fun hm=>?_) fun hm=>?_
         ·refine gX ?_
          refine fz ?_;refine gH ?_
          refine ca (aU hm O.has) fun r21 hm=>?_;refine gX ?_
          exact fe hm O
         ·refine gX ?_
          exact fe hm O
        ·refine gX ?_
         refine bf ?_;refine gX ?_
         exact fe hm O
       ·refine gX ?_
        refine bf ?_;refine gH ?_
        refine bf ?_;refine gX ?_
        exact fe hm O
      ·refine gX ?_
       refine bf ?_;refine gH ?_
       refine bf ?_;refine gH ?_
       refine bf ?_;refine gX ?_
       exact fe hm O
     ·refine gX ?_
      refine bf ?_;refine gH ?_
      refine bf ?_;refine gH ?_
      refine bf ?_;refine gH ?_
      refine bf ?_;refine gX ?_
      exact fe hm O
    ·refine gX ?_
     refine bf ?_;refine gH ?_
     refine bf ?_;refine gH ?_
     refine bf ?_;refine gH ?_
     refine bf ?_;refine gH ?_
     refine bf ?_;refine gX ?_
     exact fe hm O
   ·refine gX ?_
    refine bf ?_;refine gH ?_
    refine bf ?_;refine gH ?_
    refine bf ?_;refine gH ?_
    refine bf ?_;refine gH ?_
    refine bf ?_;refine gH ?_
    refine bf ?_;refine gX ?_
    exact fe hm O
def bL (p0:CData) (K:(Circ×(List Flt))->Prop):Prop :=
 bJ p0 (fun r3=>eP r3 0 (fun r6=>K (r3,r6.1)))
theorem gN {p0:CData}{K:(Circ×(List Flt))->Prop} (hm:bL p0 K) {h0:Heap} (hB:HasB vars h0):∃ r,K r/\CallD Tryd.prog NG 6 ⟨[bl p0]⟩ h0 ((fun (r:(Circ×(List Flt)))=>Value.tuple ⟨[aA (r.1),(al 5 aC) (r.2)]⟩) r) h0:=by
 unfold bL at hm
 refine fw Tryd.func6 hB (enc:=(fun (r:(Circ×(List Flt)))=>Value.tuple ⟨[aA (r.1),(al 5 aC) (r.2)]⟩)) (fun r=>PureV.tup (ah.cons (jS _) (ah.cons (iK (fun _=>mf _)) (ah.nil)))) fun O=>?_;conv=>whnf
 refine gX ?_
 refine fz ?_;refine gH ?_
 refine O.new (ak (l:=[(.slice none 0 0),(.slice none 0 0),(.slice none 0 0),(.slice none 0 0)]) rfl rfl rfl) fun g1 h O=>?_;refine gH ?_
 refine gX ?_
 refine ca (fC hm O.has) fun r3 hm=>?_;refine gH ?_
 refine O.new (ak (l:=[(.slice none 0 0),(.slice none 0 0),(.slice none 0 0),(.slice none 0 0)]) rfl rfl rfl) fun g4 h O=>?_;refine gH ?_
 refine O.stC 4 (.head _) [((al 4 ai) r3.nodes),((al 1 Value.string) r3.names),((al 3 az) r3.mems),((al 1 i64) r3.outs)] fun h O=>?_;refine gX ?_
 refine ldA (O.at (.head _)) ?_;refine gH ?_
 refine ca (iL hm O.has) fun r6 hm=>?_;refine gX ?_
 refine ldA (O.at (.head _)) ?_;refine gH ?_
 refine O.stC 4 (.tail _ (.head _)) [((al 4 ai) r3.nodes),((al 1 Value.string) r3.names),((al 3 az) r3.mems),((al 1 i64) r3.outs)] fun h O=>?_;refine gX ?_
 refine⟨_,aT rfl rfl (O.at (.tail _ (.head _))) rfl rfl (lbE rfl) rfl,?_⟩;conv=>whnf
 exact⟨(r3,r6.1),hm,O.ext,fun h2 F=>VLe.tup (LLe.cons (VLe.refl _ _) (LLe.cons (VLe.refl _ _) (LLe.nil _)))⟩
theorem xD {kd:TypeDesc} (hk:cR kd=false) (a b:N2):cQ Tryd.prog 58 kd (aq a) (aq b)=some (decide (a=b)):=by
 have he:gY Tryd.prog 58 (aq a) (aq b)=some ((Int.ofNat a.a==Int.ofNat b.a)&&((Int.ofNat a.b==Int.ofNat b.b)&&true)):=by kernel_rfl
 have hd:decide (a=b)=((Int.ofNat a.a==Int.ofNat b.a)&&((Int.ofNat a.b==Int.ofNat b.b)&&true)):=by
  rw[Bool.eq_iff_iff]
  simp only[decide_eq_true_eq,Bool.and_eq_true,beq_iff_eq,Bool.and_true]
  cases a;cases b
  simp
  try omega
 rw[hd]
 refine pA hk he rfl rfl fun h=>?_
 have:a=b:=by rw[<- hd] at h;exact of_decide_eq_true h
 subst this
 simp[kS,uV,i64]
theorem zM {P:Program}{ρ:Operand->Value}{κ ν:Type}{ek:κ->Value}{ev:ν->Value}{h:Heap}{d:Option Tmp}{ty:TypeId}{pos:String}{af:Array Edge}{gd:Option (Nat×Bool)}{t kt et:TypeId}{x:Operand}{g:Nat}{m:List (κ×ν)}{K:Value->Prop} (h1:h.get g=some (.map (aQ ek ev m))) (k:K (.int .i64 (Int.ofNat m.length)))
  (hx:ρ x=.map (some g):=by exact rfl) (hu:P.underlying t=some (.map kt et):=by exact rfl) :
  ∃ v,(an P ρ { dst:=d,op:=.call { callee:=.builtin .len,args := #[x],argTypes := #[t] },type:=ty,pos:=pos,after:=af,guard:=gd }=some v\/kI P ρ { dst:=d,op:=.call { callee:=.builtin .len,args := #[x],argTypes := #[t] },type:=ty,pos:=pos,after:=af,guard:=gd } h=some v)/\K v:=by
 refine⟨_,.inr ?_,k⟩
 unfold kI
 have e2:(#[t][0]?).bind P.underlying=some (.map kt et):=hu
 simp only[e2,List.map_cons,List.map_nil,hx,h1]
 simp[aQ,goInt]
set_option maxHeartbeats 8000000
structure F2 where
 a:Flt
 b:Flt
def aY (p0:CData) (K:Bool->Prop):Prop :=
 bL p0 (fun r1=>bp r1.1 r1.2 (fun r4=>aZ r1.1 r1.2 (fun r5=>ar (α:=Bool) (fun k7=>((neN r4.2 0)=true->k7 true)/\((neN r4.2 0)=false->k7 (neN r5.2 0))) (fun v6=>(v6=true->K false)/\(v6=false->ar (α:=(List (Flt×Nat))) (fun k11=>aM (S:=((List (Flt×Nat))×Nat)) (fun (v12,v13) nx14=>((ltN v13 r4.1.length)=true->ar (α:=(List (Flt×Nat))) (fun k16=>aM (S:=((List (Flt×Nat))×Nat)) (fun (v17,v18) nx19=>∃ x20,r4.1[v13]?=some x20/\((ltN v18 x20.length)=true->ar (α:=Bool) (fun k22=>∃ x23,r4.1[v13]?=some x23/\∃ x24,x23[v18]?=some x24/\((ltN x24 0)=true->k22 true)/\((ltN x24 0)=false->∃ x25,r4.1[v13]?=some x25/\∃ x26,x25[v18]?=some x26/\k22 (!ltN x26 r1.2.length))) (fun v21=>(v21=true->K false)/\(v21=false->∃ x27,r4.1[v13]?=some x27/\∃ x28,x27[v18]?=some x28/\∃ x29,r1.2[x28]?=some x29/\v18+1<2 ^ 63/\nx19 ((eB v17 x29 v13),(v18+1)))))/\((ltN v18 x20.length)=false->k16 v17)) (v12,0)) (fun v15=>v13+1<2 ^ 63/\nx14 (v15,(v13+1))))/\((ltN v13 r4.1.length)=false->k11 v12)) (([]:List (Flt×Nat)),0)) (fun v10=>ar (α:=(List (N2×Bool))) (fun k33=>aM (S:=((List (N2×Bool))×Nat)) (fun (v34,v35) nx36=>((ltN v35 r1.1.nodes.length)=true->ar (α:=(List (N2×Bool))) (fun k38=>ar (α:=(Nat×Nat)) (fun k41=>∃ x42,r1.1.nodes[v35]?=some x42/\((eqN x42.kind 5)=true->k41 (1,1))/\((eqN x42.kind 5)=false->((eqN x42.kind 6)=true->k41 (1,0))/\((eqN x42.kind 6)=false->((eqN x42.kind 7)=true->k41 (0,0))/\((eqN x42.kind 7)=false->((eqN x42.kind 8)=true->k41 (0,1))/\((eqN x42.kind 8)=false->k38 v34))))) (fun (v39,v40)=>aM (S:=((List (N2×Bool))×Nat)) (fun (v43,v44) nx45=>∃ x46,r1.1.nodes[v35]?=some x46/\((ltN v44 x46.ins.length)=true->v44+1<2 ^ 63/\nx45 ((eB v43 (⟨((bc v10 (⟨0,(⟨v35,(Int.ofNat v44)⟩:LnZ),v39,0⟩:Flt)).getD 0),((bc v10 (⟨0,(⟨v35,(Int.negSucc 0)⟩:LnZ),v40,0⟩:Flt)).getD 0)⟩:N2) true),(v44+1)))/\((ltN v44 x46.ins.length)=false->k38 v43)) (v34,0))) (fun v37=>v35+1<2 ^ 63/\nx36 (v37,(v35+1))))/\((ltN v35 r1.1.nodes.length)=false->k33 v34)) (([]:List (N2×Bool)),0)) (fun v32=>((neN v32.length r5.1.length)=true->K false)/\((neN v32.length r5.1.length)=false->ar (α:=Unit) (fun k47=>aM (S:=Nat) (fun v48 nx49=>((ltN v48 r5.1.length)=true->∃ x50,r5.1[v48]?=some x50/\((!((bc v32 x50).getD false))=true->K false)/\((!((bc v32 x50).getD false))=false->v48+1<2 ^ 63/\nx49 (v48+1)))/\((ltN v48 r5.1.length)=false->k47 ())) 0) (fun _=>bn  (fun r51=>K r51))))))))))
theorem dH {p0:CData}{K:Bool->Prop} (hm:aY p0 K) {h0:Heap} (hB:HasB vars h0):∃ r,K r/\CallD Tryd.prog NG 4 ⟨[bl p0]⟩ h0 (Value.bool r) h0:=by
 unfold aY at hm
 refine fw Tryd.func4 hB (enc:=Value.bool) (fun r=>PureV.flat rfl) fun O=>?_;conv=>whnf
 refine gX ?_
 refine fz ?_;refine gX ?_
 refine ca (gN hm O.has) fun r1 hm=>?_;refine gH ?_
 (first|refine O.new (ak (l:=[nS,nS,nS,nS]) rfl rfl rfl) fun g2 h O=>?_|refine O.gL (ak (l:=[nS,nS,nS,nS]) rfl rfl rfl) fun g2 h O=>?_);refine gH ?_
 refine O.stC 4 (.head _) [((al 4 ai) r1.1.nodes),((al 1 Value.string) r1.1.names),((al 3 az) r1.1.mems),((al 1 i64) r1.1.outs)] fun h O=>?_;refine gX ?_
 refine ldA (O.at (.head _)) ?_;refine gH ?_
 refine ca (ee hm O.has) fun r4 hm=>?_;refine gX ?_
 refine ldA (O.at (.head _)) ?_;refine gH ?_
 refine ca (dn hm O.has) fun r5 hm=>?_;refine gH ?_
 apply Cs;conv=>whnf
 refine jn hm 156 [3,4,5,7] (fun s=>s) (fun v6 h=>Own vars h0 [(sC g2 [((al 4 ai) r1.1.nodes),((al 1 Value.string) r1.1.names),((al 3 az) r1.1.mems),((al 1 i64) r1.1.outs)])] h) (fun v6=>[(40,(.bool v6))]) (fun hm=>?_) ?_
 ·refine gX ?_
  refine br hm (fun hm=>?_) fun hm=>?_
  ·refine gX ?_
   exact jx true hm O
  ·refine gX ?_
   exact jx (neN r5.2 0) hm O
 ·clear hm;rintro v6 base h hm O
  refine gX ?_
  refine br hm (fun hm=>?_) fun hm=>?_
  ·refine gX ?_
   exact fe hm O
  ·refine gX ?_
   (first|refine O.new ((rfl:anew _ _ _=some (.map (aQ aC i64 ([]:List (Flt×Nat))),fun g=>.map (some g)))) fun g8 h O=>?_|refine O.gL ((rfl:anew _ _ _=some (.map (aQ aC i64 ([]:List (Flt×Nat))),fun g=>.map (some g)))) fun g8 h O=>?_);refine gH ?_
   refine jn hm 156 [3,7,9] (fun s=>s) (fun v10 h=>Own vars h0 [(sC g2 [((al 4 ai) r1.1.nodes),((al 1 Value.string) r1.1.names),((al 3 az) r1.1.mems),((al 1 i64) r1.1.outs)]),((some g8),.map (aQ aC i64 v10))] h) (fun v10=>[]) (fun hm=>?_) ?_
   ·refine gX ?_
    refine lw 156 [3,4,5,7,9] (σ:=((List (Flt×Nat))×Nat)) (fun s=>s) (fun (v12,v13) h=>Own vars h0 [(sC g2 [((al 4 ai) r1.1.nodes),((al 1 Value.string) r1.1.names),((al 3 az) r1.1.mems),((al 1 i64) r1.1.outs)]),((some g8),.map (aQ aC i64 v12))] h) (fun (v12,v13)=>[(10,(i64 v13))]) (([]:List (Flt×Nat)),0) hm (O.sel [1,0] (by decide)) ?_
    clear hm;rintro⟨v12,v13⟩ nx14 base h hm O
    refine gX ?_
    refine lmC ?_;refine gX ?_
    refine br hm (fun hm=>?_) fun hm=>?_
    ·apply Cs;conv=>whnf
     refine jn hm 156 [3,4,5,7,9,10] (fun s=>s) (fun v15 h=>Own vars h0 [(sC g2 [((al 4 ai) r1.1.nodes),((al 1 Value.string) r1.1.names),((al 3 az) r1.1.mems),((al 1 i64) r1.1.outs)]),((some g8),.map (aQ aC i64 v15))] h) (fun v15=>[]) (fun hm=>?_) ?_
     ·refine gX ?_
      refine lw 156 [3,4,5,7,9,10] (σ:=((List (Flt×Nat))×Nat)) (fun s=>s) (fun (v17,v18) h=>Own vars h0 [(sC g2 [((al 4 ai) r1.1.nodes),((al 1 Value.string) r1.1.names),((al 3 az) r1.1.mems),((al 1 i64) r1.1.outs)]),((some g8),.map (aQ aC i64 v17))] h) (fun (v17,v18)=>[(11,(i64 v18))]) (v12,0) hm O ?_
      clear hm;rintro⟨v17,v18⟩ nx19 base h hm O
      refine gX ?_
      refine atC hm fun x20 hx20 hm=>?_;refine gH ?_
      refine lmC ?_;refine gX ?_
      refine br hm (fun hm=>?_) fun hm=>?_
      ·apply Cs;conv=>whnf
       apply Cs;conv=>whnf
       apply Cs;conv=>whnf
       apply Cs;conv=>whnf
       refine jn hm 156 [3,4,5,7,9,10,11] (fun s=>s) (fun v21 h=>Own vars h0 [(sC g2 [((al 4 ai) r1.1.nodes),((al 1 Value.string) r1.1.names),((al 3 az) r1.1.mems),((al 1 i64) r1.1.outs)]),((some g8),.map (aQ aC i64 v17))] h) (fun v21=>[(76,(.bool v21))]) (fun hm=>?_) ?_
       ·refine gX ?_
        refine atC hm fun x23 hx23 hm=>?_;refine gH ?_
        refine atC hm fun x24 hx24 hm=>?_;refine gH ?_
        refine br hm (fun hm=>?_) fun hm=>?_
        ·refine gX ?_
         exact jx true hm O
        ·refine gX ?_
         refine atC hm fun x25 hx25 hm=>?_;refine gH ?_
         refine atC hm fun x26 hx26 hm=>?_;refine gH ?_
         exact jx (!ltN x26 r1.2.length) hm O
       ·clear hm;rintro v21 base h hm O
        refine gX ?_
        refine br hm (fun hm=>?_) fun hm=>?_
        ·refine gX ?_
         exact fe hm O
        ·refine gX ?_
         refine atC hm fun x27 hx27 hm=>?_;refine gH ?_
         refine atC hm fun x28 hx28 hm=>?_;refine gH ?_
         refine atF hm fun x29 hx29 hm=>?_;refine gH ?_
         refine O.nT (ek:=aC) (ev:=i64) (m:=v17) (k:=x29) (v:=v13) (.tail _ (.head _)) rfl rfl (by kernel_rfl) (lO rfl) rfl rfl rfl fun h O=>?_;refine gX ?_
         refine bE hm fun hm=>?_;refine gH ?_
         exact jx ((eB v17 x29 v13),(v18+1)) hm O
      ·refine gX ?_
       exact jx v17 hm O
     ·clear hm;rintro v15 base h hm O
      refine gX ?_
      refine bE hm fun hm=>?_;refine gH ?_
      exact jx (v15,(v13+1)) hm O
    ·refine gX ?_
     exact jx v12 hm O
   ·clear hm;rintro v10 base h hm O
    refine gX ?_
    (first|refine O.new ((rfl:anew _ _ _=some (.map (aQ aq Value.bool ([]:List (N2×Bool))),fun g=>.map (some g)))) fun g30 h O=>?_|refine O.gL ((rfl:anew _ _ _=some (.map (aQ aq Value.bool ([]:List (N2×Bool))),fun g=>.map (some g)))) fun g30 h O=>?_);refine gH ?_
    refine jn hm 156 [7,12] (fun s=>s) (fun v32 h=>Own vars h0 [((some g30),.map (aQ aq Value.bool v32))] h) (fun v32=>[]) (fun hm=>?_) ?_
    ·refine gX ?_
     refine lw 156 [3,7,9,12] (σ:=((List (N2×Bool))×Nat)) (fun s=>s) (fun (v34,v35) h=>Own vars h0 [(sC g2 [((al 4 ai) r1.1.nodes),((al 1 Value.string) r1.1.names),((al 3 az) r1.1.mems),((al 1 i64) r1.1.outs)]),((some g8),.map (aQ aC i64 v10)),((some g30),.map (aQ aq Value.bool v34))] h) (fun (v34,v35)=>[(13,(i64 v35))]) (([]:List (N2×Bool)),0) hm (O.sel [1,2,0] (by decide)) ?_
     clear hm;rintro⟨v34,v35⟩ nx36 base h hm O
     refine gX ?_
     refine br hm (fun hm=>?_) fun hm=>?_
     ·apply Cs;conv=>whnf
      refine jn hm 156 [3,7,9,12,13] (fun s=>s) (fun v37 h=>Own vars h0 [(sC g2 [((al 4 ai) r1.1.nodes),((al 1 Value.string) r1.1.names),((al 3 az) r1.1.mems),((al 1 i64) r1.1.outs)]),((some g8),.map (aQ aC i64 v10)),((some g30),.map (aQ aq Value.bool v37))] h) (fun v37=>[]) (fun hm=>?_) ?_
      ·apply Cs;conv=>whnf
       apply Cs;conv=>whnf
       apply Cs;refine gH ?_
       apply Cs;conv=>whnf
       apply Cs;refine gH ?_
       refine jn hm 156 [3,7,9,12,13] (fun s=>s) (fun (v39,v40) h=>Own vars h0 [(sC g2 [((al 4 ai) r1.1.nodes),((al 1 Value.string) r1.1.names),((al 3 az) r1.1.mems),((al 1 i64) r1.1.outs)]),((some g8),.map (aQ aC i64 v10)),((some g30),.map (aQ aq Value.bool v34))] h) (fun (v39,v40)=>[(14,(n8 v39)),(15,(n8 v40))]) (fun hm=>?_) ?_
       ·refine gX ?_
        refine atF hm fun x42 hx42 hm=>?_;refine gX ?_
        refine br hm (fun hm=>?_) fun hm=>?_
        ·refine gX ?_
         exact jx (1,1) hm O
        ·refine gX ?_
         refine br hm (fun hm=>?_) fun hm=>?_
         ·refine gX ?_
          exact jx (1,0) hm O
         ·refine gX ?_
          refine br hm (fun hm=>?_) fun hm=>?_
          ·refine gX ?_
           exact jx (0,0) hm O
          ·refine gX ?_
           refine br hm (fun hm=>?_) fun hm=>?_
           ·refine gX ?_
            exact jx (0,1) hm O
           ·refine gX ?_
            exact jx v34 hm O
       ·clear hm;rintro⟨v39,v40⟩ base h hm O
        refine gX ?_
        refine lw 156 [3,7,9,12,13,14,15] (σ:=((List (N2×Bool))×Nat)) (fun s=>s) (fun (v43,v44) h=>Own vars h0 [(sC g2 [((al 4 ai) r1.1.nodes),((al 1 Value.string) r1.1.names),((al 3 az) r1.1.mems),((al 1 i64) r1.1.outs)]),((some g8),.map (aQ aC i64 v10)),((some g30),.map (aQ aq Value.bool v43))] h) (fun (v43,v44)=>[(16,(i64 v44))]) (v34,0) hm O ?_
        clear hm;rintro⟨v43,v44⟩ nx45 base h hm O
        refine gX ?_
        refine atF hm fun x46 hx46 hm=>?_;refine gX ?_
        refine br hm (fun hm=>?_) fun hm=>?_
        ·refine gX ?_
         refine⟨_,nH (ek:=aC) (ev:=i64) (m:=v10) (k:=(⟨0,(⟨v35,(Int.ofNat v44)⟩:LnZ),v39,0⟩:Flt)) (z:=0) rfl rfl rfl (by kernel_rfl) (by kernel_rfl) (lO rfl) (O.at (.tail _ (.head _))) rfl rfl,?_⟩;refine gH ?_
         (first|refine⟨.inr (.inr (aH rfl (O.at (.head _)) rfl rfl)),?_⟩|refine⟨.inr (.inr (aH rfl (O.at (.tail _ (.head _))) rfl rfl)),?_⟩|refine⟨.inr (.inr (aH rfl (O.at (.tail _ (.tail _ (.head _)))) rfl rfl)),?_⟩|refine⟨.inr (.inr (aH rfl (O.at (.tail _ (.tail _ (.tail _ (.head _))))) rfl rfl)),?_⟩|refine⟨.inr (.inr (aH rfl (O.at (.tail _ (.tail _ (.tail _ (.tail _ (.head _)))))) rfl rfl)),?_⟩|refine⟨.inr (.inr (aH rfl (O.at (.tail _ (.tail _ (.tail _ (.tail _ (.tail _ (.head _))))))) rfl rfl)),?_⟩|refine⟨.inr (.inr (aH rfl (O.at (.tail _ (.tail _ (.tail _ (.tail _ (.tail _ (.tail _ (.head _)))))))) rfl rfl)),?_⟩|refine⟨.inl (Ext.refl _),?_⟩|refine⟨.inr (.inr rfl),?_⟩|refine⟨.inr (by kernel_rfl),?_⟩|refine⟨.inl (by kernel_rfl),?_⟩|refine id ?_);refine gH ?_
         refine⟨_,nH (ek:=aC) (ev:=i64) (m:=v10) (k:=(⟨0,(⟨v35,(Int.negSucc 0)⟩:LnZ),v40,0⟩:Flt)) (z:=0) rfl rfl rfl (by kernel_rfl) (by kernel_rfl) (lO rfl) (O.at (.tail _ (.head _))) rfl rfl,?_⟩;refine gH ?_
         (first|refine⟨.inr (.inr (aH rfl (O.at (.head _)) rfl rfl)),?_⟩|refine⟨.inr (.inr (aH rfl (O.at (.tail _ (.head _))) rfl rfl)),?_⟩|refine⟨.inr (.inr (aH rfl (O.at (.tail _ (.tail _ (.head _)))) rfl rfl)),?_⟩|refine⟨.inr (.inr (aH rfl (O.at (.tail _ (.tail _ (.tail _ (.head _))))) rfl rfl)),?_⟩|refine⟨.inr (.inr (aH rfl (O.at (.tail _ (.tail _ (.tail _ (.tail _ (.head _)))))) rfl rfl)),?_⟩|refine⟨.inr (.inr (aH rfl (O.at (.tail _ (.tail _ (.tail _ (.tail _ (.tail _ (.head _))))))) rfl rfl)),?_⟩|refine⟨.inr (.inr (aH rfl (O.at (.tail _ (.tail _ (.tail _ (.tail _ (.tail _ (.tail _ (.head _)))))))) rfl rfl)),?_⟩|refine⟨.inl (Ext.refl _),?_⟩|refine⟨.inr (.inr rfl),?_⟩|refine⟨.inr (by kernel_rfl),?_⟩|refine⟨.inl (by kernel_rfl),?_⟩|refine id ?_);refine gH ?_
         refine O.nT (ek:=aq) (ev:=Value.bool) (m:=v43) (k:=(⟨((bc v10 (⟨0,(⟨v35,(Int.ofNat v44)⟩:LnZ),v39,0⟩:Flt)).getD 0),((bc v10 (⟨0,(⟨v35,(Int.negSucc 0)⟩:LnZ),v40,0⟩:Flt)).getD 0)⟩:N2)) (v:=true) (.tail _ (.tail _ (.head _))) rfl rfl (by kernel_rfl) (xD rfl) rfl rfl rfl fun h O=>?_;refine gH ?_
         (first|refine⟨.inr (.inr (aH rfl (O.at (.head _)) rfl rfl)),?_⟩|refine⟨.inr (.inr (aH rfl (O.at (.tail _ (.head _))) rfl rfl)),?_⟩|refine⟨.inr (.inr (aH rfl (O.at (.tail _ (.tail _ (.head _)))) rfl rfl)),?_⟩|refine⟨.inr (.inr (aH rfl (O.at (.tail _ (.tail _ (.tail _ (.head _))))) rfl rfl)),?_⟩|refine⟨.inr (.inr (aH rfl (O.at (.tail _ (.tail _ (.tail _ (.tail _ (.head _)))))) rfl rfl)),?_⟩|refine⟨.inr (.inr (aH rfl (O.at (.tail _ (.tail _ (.tail _ (.tail _ (.tail _ (.head _))))))) rfl rfl)),?_⟩|refine⟨.inr (.inr (aH rfl (O.at (.tail _ (.tail _ (.tail _ (.tail _ (.tail _ (.tail _ (.head _)))))))) rfl rfl)),?_⟩|refine⟨.inl (Ext.refl _),?_⟩|refine⟨.inr (.inr rfl),?_⟩|refine⟨.inr (by kernel_rfl),?_⟩|refine⟨.inl (by kernel_rfl),?_⟩|refine id ?_);refine gH ?_
         refine gX ?_
         refine bE hm fun hm=>?_;refine gH ?_
         exact jx ((eB v43 (⟨((bc v10 (⟨0,(⟨v35,(Int.ofNat v44)⟩:LnZ),v39,0⟩:Flt)).getD 0),((bc v10 (⟨0,(⟨v35,(Int.negSucc 0)⟩:LnZ),v40,0⟩:Flt)).getD 0)⟩:N2) true),(v44+1)) hm O
        ·refine gX ?_
         exact jx v43 hm O
      ·clear hm;rintro v37 base h hm O
       refine gX ?_
       refine bE hm fun hm=>?_;refine gH ?_
       exact jx (v37,(v35+1)) hm O
     ·refine gX ?_
      exact jx v34 hm (O.sel [2] (by decide))
    ·clear hm;rintro v32 base h hm O
     refine gX ?_
     refine zM (ek:=aq) (ev:=Value.bool) (m:=v32) (O.at (.head _)) ?_;refine gX ?_
     refine br hm (fun hm=>?_) fun hm=>?_
     ·refine gX ?_
      exact fe hm O
     ·apply Cs;conv=>whnf
      refine jn hm 156 [] (fun s=>s) (fun _ h=>Own vars h0 [] h) (fun _=>[]) (fun hm=>?_) ?_
      ·refine gX ?_
       refine lw 156 [7,12] (σ:=Nat) (fun s=>s) (fun v48 h=>Own vars h0 [((some g30),.map (aQ aq Value.bool v32))] h) (fun v48=>[(17,(i64 v48))]) 0 hm O ?_
       clear hm;rintro v48 nx49 base h hm O
       refine gX ?_
       refine br hm (fun hm=>?_) fun hm=>?_
       ·refine gX ?_
        refine atF hm fun x50 hx50 hm=>?_;refine gH ?_
        refine⟨_,nH (ek:=aq) (ev:=Value.bool) (m:=v32) (k:=x50) (z:=false) rfl rfl rfl (by kernel_rfl) (by kernel_rfl) (xD rfl) (O.at (.head _)) rfl rfl,?_⟩;refine gX ?_
        refine br hm (fun hm=>?_) fun hm=>?_
        ·refine gX ?_
         exact fe hm O
        ·refine gX ?_
         refine bE hm fun hm=>?_;refine gH ?_
         exact jx (v48+1) hm O
       ·refine gX ?_
        exact jx () hm (O.sel [] (by decide))
      ·clear hm;rintro _ base h hm O
       refine gX ?_
       refine ca (fY hm O.has) fun r51 hm=>?_;refine gX ?_
       exact fe hm O
def RtN (ps:List Nat):Nat->Nat->Nat->Prop
 |0,i,r=>ps[i]?=some i/\i=r
 |n+1,i,r=>∃ j,ps[i]?=some j/\j≠i/\RtN ps n j r
theorem RtN.uniq {ps:List Nat}:∀ {n i r m s},RtN ps n i r->RtN ps m i s->n=m/\r=s
 |0,i,r,0,s,h,g=>⟨rfl,h.2.symm.trans g.2⟩
 |0,i,r,m+1,s,h,g=>by
  obtain⟨j,g1,g2,_⟩:=g
  rw[h.1] at g1;exact absurd (Option.some.inj g1).symm g2
 |n+1,i,r,0,s,h,g=>by
  obtain⟨j,g1,g2,_⟩:=h
  rw[g.1] at g1;exact absurd (Option.some.inj g1).symm g2
 |n+1,i,r,m+1,s,h,g=>by
  obtain⟨j,h1,_,h3⟩:=h
  obtain⟨k,g1,_,g3⟩:=g
  rw[h1] at g1;cases g1
  obtain⟨rfl,rfl⟩:=RtN.uniq h3 g3
  exact⟨rfl,rfl⟩
theorem RtN.root {ps:List Nat}:∀ {n i r},RtN ps n i r->ps[r]?=some r
 |0,_,_,h=>h.2 ▸ h.1
 |_+1,_,_,⟨_,_,_,h⟩=>RtN.root h
theorem RtN.sB {ps:List Nat}{i j k:Nat} (hi:ps[i]?=some j) (hj:ps[j]?=some k) (hne:j≠i):∀ {n x r},RtN ps n x r->∃ m,m<=n/\RtN (ps.set i k) m x r:=by
 have hlt:i<ps.length:=(List.getElem?_eq_some_iff.1 hi).1
 intro n
 induction n using Nat.strongRecOn with
 |_ n ih =>
  intro x r h
  match n,h with
  |0,h =>
   refine⟨0,Nat.le_refl _,?_,h.2⟩
   rw[List.getElem?_set_ne,h.1]
   rintro rfl
   rw[h.1] at hi;exact hne (Option.some.inj hi).symm
  |n+1,⟨y,h1,h2,h3⟩ =>
   by_cases c:i=x
   ·subst c
    rw[hi] at h1;cases h1
    match n,h3 with
    |0,h3 =>
     rw[h3.1] at hj;cases hj
     obtain⟨m,_,hm⟩:=ih 0 (by omega) h3
     obtain⟨rfl,e⟩:m=0/\r=r:=by
      refine⟨?_,rfl⟩
      omega
     exact⟨1,by omega,j,by rw[List.getElem?_set_self hlt],hne,hm⟩
    |n+1,⟨k',g1,g2,g3⟩ =>
     rw[hj] at g1;cases g1
     have hk:k≠i:=by
      rintro rfl
      have:=(RtN.uniq g3 (show RtN ps (n+2) k r from⟨j,hi,hne,k,hj,g2,g3⟩)).1
      omega
     obtain⟨m,hm1,hm⟩:=ih n (by omega) g3
     exact⟨m+1,by omega,k,by rw[List.getElem?_set_self hlt],hk,hm⟩
   ·obtain⟨m,hm1,hm⟩:=ih n (by omega) h3
    exact⟨m+1,by omega,y,by rw[List.getElem?_set_ne c,h1],h2,hm⟩
def Rt (ps:List Nat) (i r:Nat):Prop:=∃ n,RtN ps n i r
theorem Rt.uniq {ps:List Nat}{i r s:Nat} (h:Rt ps i r) (g:Rt ps i s):r=s:=by
 obtain⟨n,h⟩:=h
 obtain⟨m,g⟩:=g
 exact (RtN.uniq h g).2
theorem Rt.root {ps:List Nat}{i r:Nat} (h:Rt ps i r):ps[r]?=some r:=by
 obtain⟨n,h⟩:=h
 exact h.root
theorem Rt.self {ps:List Nat}{r:Nat} (h:ps[r]?=some r):Rt ps r r:=⟨0,h,rfl⟩
theorem Rt.lt {ps:List Nat}{i r:Nat} (h:Rt ps i r):r<ps.length:=(List.getElem?_eq_some_iff.1 h.root).1
theorem Rt.lt1 {ps:List Nat}{i r:Nat}:Rt ps i r->i<ps.length
 |⟨0,h⟩=>(List.getElem?_eq_some_iff.1 h.1).1
 |⟨_+1,_,h,_⟩=>(List.getElem?_eq_some_iff.1 h).1
def Fo (ps:List Nat):Prop:=∀ i,i<ps.length->∃ r,Rt ps i r
structure SameR (ps qs:List Nat):Prop where
 len:qs.length=ps.length
 rt:∀ i r,Rt ps i r->Rt qs i r
theorem SameR.refl (ps:List Nat):SameR ps ps:=⟨rfl,fun _ _ h=>h⟩
theorem SameR.trans {a b d:List Nat} (h:SameR a b) (g:SameR b d):SameR a d:=⟨g.len.trans h.len,fun i r q=>g.rt i r (h.rt i r q)⟩
theorem SameR.fo {ps qs:List Nat} (h:SameR ps qs) (F:Fo ps):Fo qs:=fun i hi=>by
 obtain⟨r,hr⟩:=F i (h.len ▸ hi)
 exact⟨r,h.rt i r hr⟩
theorem SameR.back {ps qs:List Nat} (h:SameR ps qs) (F:Fo ps) {i r:Nat} (g:Rt qs i r):Rt ps i r:=by
 obtain⟨s,hs⟩:=F i (h.len ▸ g.lt1)
 have:=(h.rt i s hs).uniq g
 exact this ▸ hs
theorem SameR.sB {ps:List Nat}{i j k:Nat} (hi:ps[i]?=some j) (hj:ps[j]?=some k) (hne:j≠i):SameR ps (ps.set i k) :=
 ⟨List.length_set ..,fun x r ⟨n,h⟩=>by
  obtain⟨m,_,hm⟩:=RtN.sB hi hj hne h
  exact⟨m,hm⟩⟩
theorem RtN.link {ps:List Nat}{a b:Nat} (ha:ps[a]?=some a) (hb:ps[b]?=some b) (hne:a≠b):∀ {n i r},RtN ps n i r->Rt (ps.set a b) i (if r=a then b else r)
 |0,i,r,h=>by
  obtain⟨h1,rfl⟩:=h
  have hl:a<ps.length:=(List.getElem?_eq_some_iff.1 ha).1
  by_cases c:i=a
  ·subst c
   rw[if_pos rfl]
   exact⟨1,b,by rw[List.getElem?_set_self hl],fun e=>hne e.symm,by rw[List.getElem?_set_ne hne,hb],rfl⟩
  ·rw[if_neg c]
   exact Rt.self (by rw[List.getElem?_set_ne (fun e=>c e.symm),h1])
 |n+1,i,r,⟨j,h1,h2,h3⟩=>by
  obtain⟨m,hm⟩:=RtN.link ha hb hne h3
  have c:a≠i:=by
   rintro rfl
   rw[ha] at h1;exact h2 (Option.some.inj h1).symm
  exact⟨m+1,j,by rw[List.getElem?_set_ne c,h1],h2,hm⟩
theorem Rt.link {ps:List Nat}{a b:Nat} (ha:ps[a]?=some a) (hb:ps[b]?=some b) {i r:Nat} (h:Rt ps i r):Rt (ps.set a b) i (if r=a then b else r):=by
 by_cases c:a=b
 ·subst c
  have hl:a<ps.length:=(List.getElem?_eq_some_iff.1 ha).1
  have e:ps.set a a=ps:=by
   apply List.ext_getElem?
   intro j
   by_cases q:a=j
   ·subst q;rw[List.getElem?_set_self hl,ha]
   ·rw[List.getElem?_set_ne q]
  rw[e]
  split
  ·rename_i q;exact q ▸ h
  ·exact h
 ·obtain⟨n,h⟩:=h
  exact h.link ha hb c
inductive Cn {α:Type} (E:α->α->Prop):α->α->Prop
 |refl (a:α):Cn E a a
 |fwd {a b d:α}:E a b->Cn E b d->Cn E a d
 |bwd {a b d:α}:E b a->Cn E b d->Cn E a d
theorem Cn.trans {α:Type}{E:α->α->Prop}{a b d:α} (h:Cn E a b) (g:Cn E b d):Cn E a d:=by
 induction h with
 |refl=>exact g
 |fwd e _ ih=>exact .fwd e (ih g)
 |bwd e _ ih=>exact .bwd e (ih g)
theorem Cn.one {α:Type}{E:α->α->Prop}{a b:α} (h:E a b):Cn E a b:=.fwd h (.refl _)
theorem Cn.symm {α:Type}{E:α->α->Prop}{a b:α} (h:Cn E a b):Cn E b a:=by
 induction h with
 |refl=>exact .refl _
 |fwd e _ ih=>exact ih.trans (.bwd e (.refl _))
 |bwd e _ ih=>exact ih.trans (.fwd e (.refl _))
theorem Cn.mono {α:Type}{E F:α->α->Prop} (hE:∀ a b,E a b->F a b) {a b:α} (h:Cn E a b):Cn F a b:=by
 induction h with
 |refl=>exact .refl _
 |fwd e _ ih=>exact .fwd (hE _ _ e) ih
 |bwd e _ ih=>exact .bwd (hE _ _ e) ih
theorem Cn.inv {α β:Type}{E:α->α->Prop}{f:α->β} (hE:∀ a b,E a b->f a=f b) {a b:α} (h:Cn E a b):f a=f b:=by
 induction h with
 |refl=>rfl
 |fwd e _ ih=>exact (hE _ _ e).trans ih
 |bwd e _ ih=>exact (hE _ _ e).symm.trans ih
theorem Cn.add {α:Type}{E:α->α->Prop}{x y a b:α} (h:Cn (fun u v=>E u v\/u=x/\v=y) a b):Cn E a b\/(Cn E a x\/Cn E a y)/\(Cn E b x\/Cn E b y):=by
 induction h with
 |refl=>exact .inl (.refl _)
 |fwd e _ ih =>
  rcases e with e|⟨rfl,rfl⟩
  ·rcases ih with ih|⟨h1,h2⟩
   ·exact .inl (.fwd e ih)
   ·exact .inr ⟨h1.imp (.fwd e) (.fwd e),h2⟩
  ·rcases ih with ih|⟨h1,h2⟩
   ·exact .inr ⟨.inl (.refl _),.inr ih.symm⟩
   ·exact .inr ⟨.inl (.refl _),h2⟩
 |bwd e _ ih =>
  rcases e with e|⟨rfl,rfl⟩
  ·rcases ih with ih|⟨h1,h2⟩
   ·exact .inl (.bwd e ih)
   ·exact .inr ⟨h1.imp (.bwd e) (.bwd e),h2⟩
  ·rcases ih with ih|⟨h1,h2⟩
   ·exact .inr ⟨.inr (.refl _),.inl ih.symm⟩
   ·exact .inr ⟨.inr (.refl _),h2⟩
structure UfI {α:Type} (V:α->Prop) (num:α->Nat) (E:α->α->Prop) (ps:List Nat) (np:Nat):Prop where
 len:ps.length=np
 fo:Fo ps
 lt:∀ a,V a->num a<np
 cn:∀ a b r s,V a->V b->Rt ps (num a) r->Rt ps (num b) s->(r=s↔Cn E a b)
theorem UfI.same {α:Type}{V:α->Prop}{num:α->Nat}{E:α->α->Prop}{ps qs:List Nat}{np:Nat} (U:UfI V num E ps np) (h:SameR ps qs):UfI V num E qs np :=
 ⟨h.len.trans U.len,h.fo U.fo,U.lt,fun a b r s ha hb h1 h2=>U.cn a b r s ha hb (h.back U.fo h1) (h.back U.fo h2)⟩
theorem UfI.join {α:Type}{V:α->Prop}{num:α->Nat}{E:α->α->Prop}{ps:List Nat}{np:Nat} (U:UfI V num E ps np) {x y:α} (hx:V x) (hy:V y) {rx ry:Nat} (h1:Rt ps (num x) rx) (h2:Rt ps (num y) ry) :
  UfI V num (fun u v=>E u v\/u=x/\v=y) (ps.set rx ry) np:=by
 have R:=@Rt.link ps rx ry h1.root h2.root
 refine⟨(List.length_set ..).trans U.len,fun i hi=>?_,U.lt,fun a b r s ha hb g1 g2=>?_⟩
 ·rw[List.length_set] at hi
  obtain⟨r,hr⟩:=U.fo i hi
  exact⟨_,R hr⟩
 ·obtain⟨r0,hr0⟩:=U.fo (num a) (U.len ▸ U.lt a ha)
  obtain⟨s0,hs0⟩:=U.fo (num b) (U.len ▸ U.lt b hb)
  have e1:=g1.uniq (R hr0)
  have e2:=g2.uniq (R hs0)
  have hE:∀ u v,Cn E u v->Cn (fun u v=>E u v\/u=x/\v=y) u v:=fun u v h=>h.mono fun _ _ h=>.inl h
  have hxy:Cn (fun u v=>E u v\/u=x/\v=y) x y:=.one (.inr ⟨rfl,rfl⟩)
  have ax:=U.cn a x r0 rx ha hx hr0 h1
  have ay:=U.cn a y r0 ry ha hy hr0 h2
  have bx:=U.cn b x s0 rx hb hx hs0 h1
  have by_:=U.cn b y s0 ry hb hy hs0 h2
  have ab:=U.cn a b r0 s0 ha hb hr0 hs0
  constructor
  ·intro e
   rw[e1,e2] at e
   by_cases c1:r0=rx
   ·by_cases c2:s0=rx
    ·exact hE _ _ (ab.1 (c1.trans c2.symm))
    ·rw[if_pos c1,if_neg c2] at e
     exact (hE _ _ (ax.1 c1)).trans (hxy.trans (hE _ _ (by_.1 e.symm)).symm)
   ·by_cases c2:s0=rx
    ·rw[if_neg c1,if_pos c2] at e
     exact (hE _ _ (ay.1 e)).trans (hxy.symm.trans (hE _ _ (bx.1 c2)).symm)
    ·rw[if_neg c1,if_neg c2] at e
     exact hE _ _ (ab.1 e)
  ·intro h
   rw[e1,e2]
   rcases h.add with h|⟨h1,h2⟩
   ·rw[ab.2 h]
   ·have key:∀ (z z0:Nat),(z=rx\/z=ry)->(if z=rx then ry else z)=ry:=by
     intro z _ h
     rcases h with rfl|rfl
     ·rw[if_pos rfl]
     ·split <;> rfl
    rw[key r0 0 (h1.imp ax.2 ay.2),key s0 0 (h2.imp bx.2 by_.2)]
def ji {α:Type} (down:α->Option α):Nat->α->α
 |0,a=>a
 |n+1,a=>match down a with|some b=>ji down n b|none=>a
theorem rn {α:Type}{down:α->Option α}:∀ n a,Cn (fun u v=>down u=some v) a (ji down n a)
 |0,a=>.refl _
 |n+1,a=>by
  rw[ji]
  cases h:down a with
  |none=>exact .refl _
  |some b=>exact .fwd h (rn n b)
theorem pX {α:Type}{down:α->Option α}{μ:α->Nat} (hμ:∀ a b,down a=some b->μ b<μ a):∀ n a m,μ a<=n->μ a<=m->ji down n a=ji down m a
 |0,a,m,h,_=>by
  have:down a=none:=by
   cases e:down a with
   |none=>rfl
   |some b=>have:=hμ a b e;omega
  cases m with
  |zero=>rfl
  |succ m=>rw[ji,ji,this]
 |n+1,a,0,_,h=>by
  have:down a=none:=by
   cases e:down a with
   |none=>rfl
   |some b=>have:=hμ a b e;omega
  rw[ji,ji,this]
 |n+1,a,m+1,h1,h2=>by
  rw[ji,ji]
  cases e:down a with
  |none=>rfl
  |some b=>have:=hμ a b e;exact pX hμ n b m (by omega) (by omega)
theorem vX {α:Type}{down:α->Option α}{μ:α->Nat} (hμ:∀ a b,down a=some b->μ b<μ a) {N:Nat}{a b:α} (hN:μ a<=N) (h:down a=some b):ji down N a=ji down N b:=by
 have:=hμ a b h
 cases N with
 |zero=>omega
 |succ N =>
  rw[ji,h]
  exact pX hμ N b (N+1) (by omega) (by omega)
theorem zI {α:Type}{down:α->Option α}{μ:α->Nat} (hμ:∀ a b,down a=some b->μ b<μ a) {N:Nat} (hN:∀ a,μ a<=N) {a b:α}:Cn (fun u v=>down u=some v) a b↔ji down N a=ji down N b:=by
 constructor
 ·exact Cn.inv fun u v h=>vX hμ (hN u) h
 ·intro e
  have h1:=rn (down:=down) N a
  rw[e] at h1
  exact h1.trans (rn N b).symm
theorem eZ {α:Type}{first:(α->Prop)->Prop}{rest:α->Prop} (P:α->Prop) (h1:∀ k,(∀ a,P a->k a)->first k) (h2:∀ a,P a->rest a):ar first rest:=h1 rest h2
theorem jA {α:Type}{a:α}{first:(α->Prop)->Prop}{rest:α->Prop} (h1:rest a->first rest) (h2:rest a):ar first rest:=h1 h2
def A4 (e d:Nat):Nat:=if e=0 then 3 else if e=1 then min d 2 else 2
def zv (v:Nat):Nat:=if 3<v then 2 else v
def A6 (l:List Nat):Option Nat:=l.findIdx? fun v=>v != 3
def AZ (l:List Nat):Nat:=match A6 l with
 |none=>3
 |some i=>if (l.contains 0&&l.contains 1)||l.any (fun v=>zv v==2) then 2 else l.getD i 0
def AR (k:Nat) (l:List Nat):Nat:=if k=12 then A4 (l.getD 0 0) (l.getD 1 0) else if k=13 then AZ l else AP k l
theorem yf (i:Nat):(!ltI (Int.ofNat i) (Int.ofNat 0))=true:=by
 have:ltI (Int.ofNat i) (Int.ofNat 0)=false:=uJ.2 (Int.natCast_nonneg i)
 rw[this];rfl
structure GK (ks:List Nat) (x:Node):Prop where
 kind1:1<=x.kind
 kind:x.kind<=13
 arity:Arity x.kind x.ins.length
 ins:∀ k∈x.ins,k<ks.length
 bus:x.kind=13->∀ k∈x.ins,ks.getD k 0=12
 mem:x.mem=0
 bit:x.bit=0
theorem jM (ks:List Nat):∀ (i:Nat) (t:Nat),t∈cc ks i->t<i/\ks.getD t 0=12
 |0,t,h=>by unfold cc at h;cases h
 |i+1,t,h=>by
  unfold cc at h
  split at h
  ·rename_i e
   rcases List.mem_append.1 h with h|h
   ·have:=jM ks i t h;exact⟨by omega,this.2⟩
   ·rw[List.mem_singleton] at h;subst h;exact⟨by omega,e⟩
  ·have:=jM ks i t h;exact⟨by omega,this.2⟩
theorem sK {l:List Nat}{i:Nat} (h:i<l.length):l.getD i 0∈l:=by
 rw[List.getD,List.getElem?_eq_getElem h]
 exact List.getElem_mem h
theorem nR:∀ kk,kk<6->Arity (5+kk) 2/\Arity (5+kk) 3:=by decide
theorem sY (bus:Bool) (g:GData) {ks:List Nat} (hn:0<ks.length):GK ks (ff bus g ks):=by
 have ha:=Nat.mod_lt g.a hn
 have hb:=Nat.mod_lt g.b hn
 have hd:=Nat.mod_lt g.d hn
 have hkk:(if bus then g.kind%13 else g.kind%9)<13:=by
  split
  ·exact Nat.mod_lt _ (by decide)
  ·exact Nat.lt_trans (Nat.mod_lt _ (by decide)) (by decide)
 unfold ff
 generalize (if bus then g.kind%13 else g.kind%9)=kk at hkk
 by_cases c1:kk<6
 ·rw[if_pos c1]
  by_cases c2:128<=g.kind
  ·rw[if_pos c2]
   refine⟨by dsimp only;omega,by dsimp only;omega,?_,?_,fun e=>by dsimp only at e;omega,rfl,rfl⟩
   ·exact (nR kk c1).2
   ·intro k m
    simp only[List.mem_cons,List.not_mem_nil,or_false] at m
    rcases m with rfl|rfl|rfl <;> assumption
  ·rw[if_neg c2]
   refine⟨by dsimp only;omega,by dsimp only;omega,?_,?_,fun e=>by dsimp only at e;omega,rfl,rfl⟩
   ·exact (nR kk c1).1
   ·intro k m
    simp only[List.mem_cons,List.not_mem_nil,or_false] at m
    rcases m with rfl|rfl <;> assumption
 rw[if_neg c1]
 by_cases c2:kk=6
 ·rw[if_pos c2]
  exact⟨(by decide:1<=4),(by decide:4<=13),(by decide:Arity 4 1),fun k m=>by simp only[List.mem_cons,List.not_mem_nil,or_false] at m;subst m;exact ha,(fun e=>by cases e),rfl,rfl⟩
 rw[if_neg c2]
 by_cases c3:kk=7
 ·rw[if_pos c3]
  refine⟨(by decide:1<=11),(by decide:11<=13),(by decide:Arity 11 3),fun k m=>?_,(fun e=>by cases e),rfl,rfl⟩
  simp only[List.mem_cons,List.not_mem_nil,or_false] at m
  rcases m with rfl|rfl|rfl <;> assumption
 rw[if_neg c3]
 by_cases c4:kk=9\/kk=10
 ·rw[if_pos c4]
  refine⟨(by decide:1<=12),(by decide:12<=13),(by decide:Arity 12 2),fun k m=>?_,(fun e=>by cases e),rfl,rfl⟩
  simp only[List.mem_cons,List.not_mem_nil,or_false] at m
  rcases m with rfl|rfl <;> assumption
 rw[if_neg c4]
 by_cases c5:10<kk/\0<(cc ks ks.length).length
 ·rw[if_pos c5]
  have h1:=jM ks ks.length _ (sK (Nat.mod_lt g.a c5.2))
  have h2:=jM ks ks.length _ (sK (Nat.mod_lt (g.a%(cc ks ks.length).length+1) c5.2))
  by_cases c6:1<(cc ks ks.length).length
  ·rw[if_pos c6]
   refine⟨(by decide:1<=13),(by decide:13<=13),(by decide:Arity 13 2),fun k m=>?_,fun _ k m=>?_,rfl,rfl⟩ <;>
   ·simp only[List.mem_cons,List.not_mem_nil,or_false] at m
    rcases m with rfl|rfl
    ·first|exact h1.1|exact h1.2
    ·first|exact h2.1|exact h2.2
  ·rw[if_neg c6]
   refine⟨(by decide:1<=13),(by decide:13<=13),(by decide:Arity 13 1),fun k m=>?_,fun _ k m=>?_,rfl,rfl⟩ <;>
   ·simp only[List.mem_cons,List.not_mem_nil,or_false] at m
    subst m
    first|exact h1.1|exact h1.2
 rw[if_neg c5]
 by_cases c7:240<g.kind
 ·rw[if_pos c7]
  have:g.a%2=0\/g.a%2=1:=by omega
  rcases this with e|e <;> rw[e]
  ·exact⟨(by decide:1<=1),(by decide:1<=13),(by decide:Arity 1 0),(fun k m=>by cases m),(fun _ k m=>by cases m),rfl,rfl⟩
  ·exact⟨(by decide:1<=2),(by decide:2<=13),(by decide:Arity 2 0),(fun k m=>by cases m),(fun _ k m=>by cases m),rfl,rfl⟩
 ·rw[if_neg c7]
  exact⟨(by decide:1<=3),(by decide:3<=13),(by decide:Arity 3 1),fun k m=>by simp only[List.mem_cons,List.not_mem_nil,or_false] at m;subst m;exact ha,(fun e=>by cases e),rfl,rfl⟩
theorem ng (bus:Bool) (gs:List GData) (base:List Node) (hb:0<base.length):∀ m,m<=gs.length->∀ (i:Nat) (y:Node),(dc bus gs base m)[i]?=some y ->
  (i<base.length/\base[i]?=some y)\/(base.length<=i/\∃ g,y=ff bus g (((dc bus gs base m).take i).map Node.kind))
 |0,_,i,y,h=>.inl ⟨ag h,h⟩
 |m+1,hm,i,y,h=>by
  have hg:gs[m]?=some gs[m]:=List.getElem?_eq_getElem (by omega)
  have hl:=dB bus gs base m (by omega)
  rw[jw hg] at h ⊢
  by_cases c:i<(dc bus gs base m).length
  ·rw[List.getElem?_append_left c] at h
   rcases ng bus gs base hb m (by omega) i y h with q|⟨q1,g,q2⟩
   ·exact .inl q
   ·refine .inr ⟨q1,g,?_⟩
    rw[List.take_append_of_le_length (by omega)]
    exact q2
  ·have hi:i=(dc bus gs base m).length:=by
    have:=ag h
    rw[List.length_append,List.length_singleton] at this
    omega
   subst hi
   rw[List.getElem?_append_right (Nat.le_refl _),Nat.sub_self] at h
   cases h
   refine .inr ⟨by omega,gs[m],?_⟩
   rw[List.take_left']
   rfl
theorem rR {first:Nat}{d:Nat->Nat}{ns:List Node}{j:Nat}:∀ {m},j<m->first+m<=ns.length->(jY first d m ns)[first+j]?=some (lH (d j))
 |m+1,h,hl=>by
  rw[jY,List.getElem?_set]
  by_cases c:m=j
  ·subst c
   rw[if_pos rfl,if_pos (by rw[eS];omega)]
  ·rw[if_neg (by omega)]
   exact rR (by omega) (by omega)
theorem oU {first:Nat}{d:Nat->Nat}{ns:List Node}{j:Nat} (h:j<first):∀ m,(jY first d m ns)[j]?=ns[j]?
 |0=>rfl
 |m+1=>by rw[jY,List.getElem?_set_ne (by omega)];exact oU h m
def zL (x:CData) (_i:Nat) (y:Node):Prop:=x.mem=true/\(y=vd 0\/y=vd 1)
theorem oI {x:CData}{i:Nat}{y:Node} (h:(dZ x).nodes[i]?=some y) :
  (i<x.inp%4+1/\y=eF)\/(x.inp%4+1<=i/\i<x.inp%4+1+x.dffs%3/\∃ d,d<(bV x).length/\y=lH d)\/zL x i y \/
  (x.inp%4+1+x.dffs%3<=i/\(bV x)[i]?=some y/\∃ g,y=ff x.bus g (((bV x).take i).map Node.kind)):=by
 have h:(jY (x.inp%4+1) (kr x (bV x).length) (x.dffs%3) (bV x))[i]?=some y:=h
 have hbl:=ew x.inp x.dffs x.mem
 have hrl:=eU x
 have hbase:∀ i,i<x.inp%4+1->(dU x.inp x.dffs x.mem)[i]?=some eF:=fun i hi=>by
  unfold dU
  rw[List.append_assoc,List.getElem?_append_left (by rw[List.length_replicate];exact hi),List.getElem?_replicate,if_pos hi]
 by_cases c1:i<x.inp%4+1
 ·rw[oU c1] at h
  unfold bV at h
  rw[kD _ _ _ (by omega) _ (Nat.min_le_left _ _),hbase i c1] at h
  cases h
  exact .inl ⟨c1,rfl⟩
 ·by_cases c2:i<x.inp%4+1+x.dffs%3
  ·have e:i=x.inp%4+1+(i-(x.inp%4+1)):=by omega
   rw[e,rR (by omega) (by omega)] at h
   cases h
   exact .inr (.inl ⟨by omega,c2,_,Nat.mod_lt _ (ml x),rfl⟩)
  ·rw[lB (by omega)] at h
   rcases ng x.bus x.gates (dU x.inp x.dffs x.mem) (by omega) _ (Nat.min_le_left _ 8) i y h with⟨q,e⟩|⟨_,g,q⟩
   ·refine .inr (.inr (.inl ?_))
    unfold dU at e
    rw[List.getElem?_append_right (by simp only[List.length_append,List.length_replicate];omega)] at e
    cases hm:x.mem
    ·rw[hm] at e;simp at e
    ·rw[hm] at e
     simp only[if_true] at e
     refine⟨hm,?_⟩
     have hme:=List.mem_of_getElem? e
     simpa using hme
   ·exact .inr (.inr (.inr ⟨by omega,h,g,q⟩))
theorem vT {x:CData} (hm:x.mem=false) {i:Nat}{y:Node} (h:(dZ x).nodes[i]?=some y) :
  (i<x.inp%4+1/\y=eF)\/(x.inp%4+1<=i/\i<x.inp%4+1+x.dffs%3/\∃ d,d<(bV x).length/\y=lH d) \/
  (x.inp%4+1+x.dffs%3<=i/\(bV x)[i]?=some y/\∃ g,y=ff x.bus g (((bV x).take i).map Node.kind)):=by
 rcases oI h with q|q|q|q
 ·exact .inl q
 ·exact .inr (.inl q)
 ·have:=q.1;rw[hm] at this;cases this
 ·exact .inr (.inr q)
theorem tI (x:CData) (k:Nat):(((dZ x).nodes).map Node.kind).getD k 0=((bV x).map Node.kind).getD k 0:=by
 have hrl:=eU x
 show ((jY (x.inp%4+1) (kr x (bV x).length) (x.dffs%3) (bV x)).map Node.kind).getD k 0=_
 rw[List.getD,List.getD,List.getElem?_map,List.getElem?_map]
 by_cases c1:k<x.inp%4+1
 ·rw[oU c1]
 ·by_cases c2:k<x.inp%4+1+x.dffs%3
  ·have e:k=x.inp%4+1+(k-(x.inp%4+1)):=by omega
   rw[e,rR (by omega) (by omega),rW (by omega)]
   rfl
  ·rw[lB (by omega)]
theorem jP (x:CData):(dZ x).mems=if x.mem then [⟨[x.port0%(bV x).length],[x.port1%(bV x).length,x.port2%(bV x).length],x.port3%(bV x).length⟩] else []:=rfl
theorem uc (x:CData):Good (dZ x):=by
 have hle:=uC x
 have hpos:=ml x
 have hn:(dZ x).nodes.length=(bV x).length:=eS _
 have node:∀ (i:Nat) (y:Node),(dZ x).nodes[i]?=some y->GoodN (dZ x) i y:=by
  intro i y h
  have hi:=ag h
  rw[hn] at hi
  rcases oI h with⟨_,rfl⟩|⟨_,_,d,hd,rfl⟩|⟨hm,e⟩|⟨h1,h2,g,hg⟩
  ·exact⟨(by decide:0<=15),(by decide:Arity 0 0),(fun k m=>by cases m),(fun e=>by cases e),fun _=>⟨rfl,rfl⟩,(fun e=>by cases e),fun e=>absurd e (by decide:¬ 1<=0)⟩
  ·refine⟨(by decide:14<=15),(by decide:Arity 14 1),fun k m=>?_,(fun e=>by cases e),fun _=>⟨rfl,rfl⟩,(fun e=>by cases e),fun _ e=>absurd e (by decide:¬ 14<=13)⟩
   have:k=d:=by simpa[lH] using m
   rw[hn,this];exact hd
  ·have em:=jP x
   rw[hm] at em
   simp only[if_true] at em
   rcases e with rfl|rfl
   ·exact⟨(by decide:15<=15),(by decide:Arity 15 0),(fun k m=>by cases m),(fun e=>by cases e),fun e=>absurd rfl e,fun _=>⟨_,(by rw[em];rfl),by show (0:Nat)<2;decide⟩,fun _ e=>absurd e (by decide:¬ 15<=13)⟩
   ·exact⟨(by decide:15<=15),(by decide:Arity 15 0),(fun k m=>by cases m),(fun e=>by cases e),fun e=>absurd rfl e,fun _=>⟨_,(by rw[em];rfl),by show (1:Nat)<2;decide⟩,fun _ e=>absurd e (by decide:¬ 15<=13)⟩
  ·have hks:(((bV x).take i).map Node.kind).length=i:=by rw[List.length_map,List.length_take];omega
   have G:=sY x.bus g (ks:=((bV x).take i).map Node.kind) (by omega)
   rw[<- hg] at G
   have lt:∀ k∈y.ins,k<i:=fun k m=>by have:=G.ins k m;omega
   refine⟨by have:=G.kind;omega,G.arity,fun k m=>by have:=lt k m;omega,fun e k m=>?_,fun _=>⟨G.mem,G.bit⟩,fun e=>by have:=G.kind;omega,fun _ _=>lt⟩
   have hk:=lt k m
   have hk2:k<(dZ x).nodes.length:=by omega
   refine⟨_,List.getElem?_eq_getElem hk2,?_⟩
   have e1:=tI x k
   rw[List.getD,List.getElem?_map,List.getElem?_eq_getElem hk2] at e1
   have e2:=G.bus e k m
   rw[List.getD,List.getElem?_map,List.getElem?_take,if_pos hk] at e2
   rw[List.getD,List.getElem?_map,e2] at e1
   exact e1
 refine⟨by omega,by show ((List.range (bV x).length).map gS).length=_;rw[hn];simp,xG (n:=(bV x).length) (by omega) rfl,wF ⟨by omega,fun i y h=>⟨(node i y h).ins,(node i y h).few⟩⟩,?_,?_,?_,?_,node,by rw[hn];exact hpos⟩
 ·intro m hme
  rw[jP] at hme
  split at hme
  ·rw[List.mem_singleton] at hme
   subst hme
   have lt:∀ a,a%(bV x).length<(dZ x).nodes.length:=fun a=>by rw[hn];exact Nat.mod_lt _ hpos
   exact⟨(by decide:1<=1/\1<=8),(by decide:1<=2/\2<=32),fun k m=>by rw[List.mem_singleton.1 m];exact lt _,fun k m=>by simp only[List.mem_cons,List.not_mem_nil,or_false] at m;rcases m with rfl|rfl <;> exact lt _,lt _⟩
  ·cases hme
 ·rw[jP];split <;> simp
 ·intro o m
  have m:o∈(x.outs.take 3).map (· % (bV x).length)++[(bV x).length-1]:=m
  rw[hn]
  rcases List.mem_append.1 m with m|m
  ·obtain⟨q,_,rfl⟩:=List.mem_map.1 m
   exact Nat.mod_lt _ hpos
  ·rw[List.mem_singleton] at m;omega
 ·show ((x.outs.take 3).map (· % (bV x).length)++[(bV x).length-1]).length<=16
  rw[List.length_append,List.length_map,List.length_take,List.length_singleton];omega
theorem vc {x:CData} (_:x.mem=false):Good (dZ x):=uc x
structure Cir (c:Circ):Prop where
 good:Good c
 mems:c.mems=[]
 kinds:∀ (i:Nat) (x:Node),c.nodes[i]?=some x->x.kind<=14
theorem Cir.len {c:Circ} (C:Cir c):c.nodes.length<=16:=C.good.len
structure PatOk (c:Circ) (p:Pat):Prop where
 inp:p.inp.length=(ofN c [0]).length
 state:p.state.length=(ofN c [14]).length
 inpv:∀ v∈p.inp,v<=3
 statev:∀ v∈p.state,v<=3
def combB (k:Nat):Bool:=decide (1<=k/\k<=13)
def Av (pn:Nat->Nat->Nat->Nat) (t:List Nat) (m:Nat) (x:Node):List Nat:=x.ins.mapIdx fun j k=>pn m j (t.getD k 0)
def srcV (c:Circ) (p:Pat) (i:Nat):Nat:=if kd c i=0 then p.inp.getD ((ofN c [0]).idxOf i) 0 else if kd c i=14 then p.state.getD ((ofN c [14]).idxOf i) 0 else 0
def baseV (c:Circ) (p:Pat) (pn:Nat->Nat->Nat->Nat) (t:List Nat) (m:Nat) (x:Node):Nat:=if combB x.kind=true then AR x.kind (Av pn t m x) else srcV c p m
structure Sol (c:Circ) (p:Pat) (nt:Nat->Nat->Nat) (pn:Nat->Nat->Nat->Nat) (t:List Nat):Prop where
 len:t.length=c.nodes.length
 val:∀ i x,c.nodes[i]?=some x->t.getD i 0=nt i (baseV c p pn t i x)
 le:∀ i,t.getD i 0<=3
structure RunS (c:Circ) (p:Pat) (nt:Nat->Nat->Nat) (pn:Nat->Nat->Nat->Nat) (o t:List Nat) (i:Nat):Prop where
 len:t.length=c.nodes.length
 done:∀ j m x,j<i->o[j]?=some m->c.nodes[m]?=some x->t.getD m 0=nt m (baseV c p pn t m x)
 todo:∀ j m x,i<=j->o[j]?=some m->c.nodes[m]?=some x->combB x.kind=false->t.getD m 0=srcV c p m
 le:∀ i,t.getD i 0<=3
theorem bS {c:Circ}{i:Nat}{x:Node} (h:c.nodes[i]?=some x):insOf c i=x.ins:=by unfold insOf;rw[List.getD,List.getElem?_map,h];rfl
def Ag (c:Circ) (p:Pat) (nt:Nat->Nat->Nat) (pn:Nat->Nat->Nat->Nat):Nat->List Nat
 |0=>[]
 |i+1=>Ag c p nt pn i++[match c.nodes[i]? with|some x=>nt i (baseV c p pn (Ag c p nt pn i) i x) | none=>0]
def sol (c:Circ) (p:Pat) (nt:Nat->Nat->Nat) (pn:Nat->Nat->Nat->Nat):List Nat:=Ag c p nt pn c.nodes.length
structure StuckOk (c:Circ) (f:Flt):Prop where
 model:f.model=0
 value:f.value<=1
 other:f.other=0
 node:f.line.node<c.nodes.length
 pin1 : -1<=f.line.pin
 pin2:f.line.pin<Int.ofNat (insOf c f.line.node).length
theorem sj {c:Circ} (C:Cir c) {K:Nat->Prop} (h:K 0):cm c K:=by
 unfold cm
 refine xo C.good ⟨(fun q=>absurd rfl (eD.1 q)),fun _=>⟨fun q=>?_,fun _=>h⟩⟩
 have:=bG.1 q
 rw[C.mems] at this
 exact absurd this (Nat.not_lt_zero _)
theorem yH {c:Circ}{l:LnZ} (h1:l.node<c.nodes.length) (h2 : -1<=l.pin) (h3:l.pin<Int.ofNat (insOf c l.node).length) {K:Bool->Prop} (h:K true):de c l K:=by
 unfold de
 refine⟨fun _=>⟨fun _=>⟨fun _=>?_,fun q=>?_⟩,fun q=>?_⟩,fun q=>?_⟩
 ·obtain⟨x,hx⟩:=aX h1
  refine⟨x,hx,?_⟩
  rw[bS hx] at h3
  rw[zq.2 h3];exact h
 ·have:ltI l.pin (Int.negSucc 0)=true:=by revert q;cases ltI l.pin (Int.negSucc 0) <;> simp
  have:l.pin<Int.negSucc 0:=zq.1 this
  omega
 ·have:=bP.1 q;omega
 ·have:=qt.1 q;omega
theorem vY {c:Circ} (C:Cir c) {f:Flt} (F:StuckOk c f) {K:Nat->Prop} (h:K 0):faults_Check_wp c f K:=by
 unfold faults_Check_wp
 refine sj C ⟨(fun q=>absurd rfl (eD.1 q)),fun _=>?_⟩
 refine jA (a:=false) (fun G=>⟨fun q=>?_,fun _=>⟨fun q=>?_,fun _=>yH F.node F.pin1 F.pin2 G⟩⟩) ⟨(fun q=>by cases q),fun _=>⟨fun q=>?_,fun _=>⟨fun q=>?_,fun _=>h⟩⟩⟩
 ·have:=bG.1 q;have:=F.model;omega
 ·have:=bG.1 q;have:=F.value;omega
 ·have:=qH.1 q;have:=F.model;omega
 ·exact absurd F.other (eD.1 q)
def Con (a b:Nat):Prop:=a<=1/\b<=1/\a≠b
instance (a b:Nat):Decidable (Con a b):=by unfold Con;infer_instance
theorem Al {p:Nat->Bool}{i:Nat}:(List.range (i+1)).filter p=(List.range i).filter p++(if p i=true then [i] else []):=by
 rw[List.range_succ,List.filter_append]
 congr 1
 rw[List.filter_cons]
 split <;> rfl
theorem lC {α:Type}{l:List α}{i:Nat}{x:α} (h:l[i]?=some x):l.take (i+1)=l.take i++[x]:=by
 obtain⟨h1,rfl⟩:=List.getElem?_eq_some_iff.1 h
 exact List.take_succ_eq_append_getElem h1
def pM (c:Circ) (i:Nat):List LnZ:=(List.range ((insOf c i).length+1)).map fun j=>⟨i,Int.ofNat j-Int.ofNat 1⟩
def eQ (c:Circ) (i:Nat):List LnZ:=(List.range i).flatMap (pM c)
def lf (c:Circ):List LnZ:=eQ c c.nodes.length
theorem lF (c:Circ) (i:Nat):eQ c (i+1)=eQ c i++pM c i:=by
 unfold eQ
 rw[List.range_succ,List.flatMap_append]
 simp
theorem iX {c:Circ} (C:Cir c):∀ i,i<=c.nodes.length->(eQ c i).length<=i*17
 |0,_=>by unfold eQ;simp
 |i+1,h=>by
  have:=iX C i (by omega)
  obtain⟨x,hx⟩:=aX (show i<c.nodes.length from h)
  have:=(C.good.node i x hx).few
  rw[lF,List.length_append]
  unfold pM
  rw[List.length_map,List.length_range,bS hx]
  omega
theorem sW {c:Circ} (C:Cir c) {K:List LnZ×Nat->Prop} (h:K (lf c,0)):bQ c K:=by
 have hlen:=C.len
 unfold bQ
 refine sj C ⟨(fun q=>absurd rfl (eD.1 q)),fun _=>?_⟩
 refine aR (fun s=>s.2<=c.nodes.length/\s.1=eQ c s.2) (fun s=>c.nodes.length-s.2) (fun l=>l=lf c) ?_ ⟨Nat.zero_le _,rfl⟩ (fun _ e=>e ▸ h)
 rintro k ⟨l,i⟩ nx ⟨hi,hl⟩ hnx hk
 dsimp only at hi hl
 refine⟨fun q=>?_,fun q=>hk _ ?_⟩
 ·have q:i<c.nodes.length:=bG.1 q
  obtain⟨x,hx⟩:=aX q
  have hfew:=(C.good.node i x hx).few
  have hll:=iX C i hi
  refine eZ (fun r=>r=eQ c (i+1)) (fun k2 hk2=>⟨x,hx,by omega,?_⟩) ?_
  ·refine bg (fun s=>s.2<=x.ins.length+1/\s.1=eQ c i++(pM c i).take s.2) (fun s=>x.ins.length+1-s.2) ?_ ⟨Nat.zero_le _,by simp[hl]⟩
   rintro⟨l,j⟩ nx ⟨hj,hl⟩ hnx
   dsimp only at hj hl
   refine⟨fun q=>?_,fun q=>hk2 _ ?_⟩
   ·have q:j<x.ins.length+1:=bG.1 q
    have hg:(pM c i)[j]?=some ⟨i,Int.ofNat j-Int.ofNat 1⟩:=by
     unfold pM
     rw[List.getElem?_map,bS hx,List.getElem?_range q]
     rfl
    have hb:((pM c i).take j).length<=17:=by
     rw[List.length_take];omega
    refine⟨by simp only[Int.ofNat_eq_natCast];omega,by simp only[Int.ofNat_eq_natCast];omega,?_,by omega,hnx _ ⟨q,?_⟩ (by dsimp only;omega)⟩
    ·rw[hl,List.length_append,List.length_singleton];omega
    ·dsimp only
     rw[hl,List.append_assoc,lC hg]
   ·have q:x.ins.length+1<=j:=bP.1 q
    rw[hl,lF,List.take_of_length_le]
    unfold pM
    rw[List.length_map,List.length_range,bS hx]
    exact q
  ·rintro _ rfl
   exact⟨by omega,hnx _ ⟨q,rfl⟩ (by dsimp only;omega)⟩
 ·have q:c.nodes.length<=i:=bP.1 q
  have e:i=c.nodes.length:=by omega
  subst e
  exact hl
theorem aO {α:Type}{l:List α}{a b:α}:a∈l++[b]↔a∈l\/a=b:=by rw[List.mem_append,List.mem_singleton]
theorem lD {κ ν:Type} [DecidableEq κ] (m:List (κ×ν)) (k k':κ) (v:ν):bc (eB m k v) k'=if k'=k then some v else bc m k':=by
 induction m with
 |nil=>unfold eB bc bc;rfl
 |cons a m ih =>
  unfold eB
  by_cases e:k=a.1
  ·rw[if_pos e]
   unfold bc
   by_cases e2:k'=k
   ·rw[if_pos e2,if_pos e2]
   ·rw[if_neg e2,if_neg e2,if_neg (fun q=>e2 (q.trans e.symm))]
  ·rw[if_neg e]
   unfold bc
   by_cases e2:k'=a.1
   ·rw[if_pos e2,if_pos e2,if_neg (fun q=>e (q.symm.trans e2))]
   ·rw[if_neg e2,if_neg e2,ih]
def bI:Circ:=⟨[⟨0,[],0,0⟩,⟨0,[],0,0⟩,⟨5,[0,1],0,0⟩],[⟨#[97]⟩,⟨#[98]⟩,⟨#[121]⟩],[],[2]⟩
theorem tX:(([⟨#[97]⟩,⟨#[98]⟩,⟨#[121]⟩]:List ByteArray).all fun s=>isTrue (nj Tryd.prog [] (mw Tryd.prog) 60 89 #[.string s] (dv vars)))=true:=by kernel_rfl
theorem wR {s:ByteArray} (h:s∈([⟨#[97]⟩,⟨#[98]⟩,⟨#[121]⟩]:List ByteArray)):yT s:=by
 obtain⟨h',e⟩:=oK (List.all_eq_true.1 tX s h)
 have c:=(gk hM hP (fun f vs h v e=>ij f vs h v e) 60 _ _ _ _ _ e).1
 exact⟨PureV.oE rfl,fun h b=>c.lift (by kernel_rfl) rfl (kE (uQ b) (nC b))⟩
theorem pR {i:Nat}{x:Node} (h:bI.nodes[i]?=some x):(i=0/\x=⟨0,[],0,0⟩)\/(i=1/\x=⟨0,[],0,0⟩)\/(i=2/\x=⟨5,[0,1],0,0⟩):=by
 have hi:=ag h
 have hi:i<3:=hi
 have:i=0\/i=1\/i=2:=by omega
 rcases this with rfl|rfl|rfl
 ·cases h;exact .inl ⟨rfl,rfl⟩
 ·cases h;exact .inr (.inl ⟨rfl,rfl⟩)
 ·cases h;exact .inr (.inr ⟨rfl,rfl⟩)
theorem xa:Cir bI:=by
 have node:∀ i x,bI.nodes[i]?=some x->GoodN bI i x:=by
  intro i x h
  rcases pR h with⟨rfl,rfl⟩|⟨rfl,rfl⟩|⟨rfl,rfl⟩
  ·exact⟨(by decide:0<=15),(by decide:Arity 0 0),(fun k m=>by cases m),(fun e=>by cases e),fun _=>⟨rfl,rfl⟩,(fun e=>by cases e),fun e=>absurd e (by decide:¬ 1<=0)⟩
  ·exact⟨(by decide:0<=15),(by decide:Arity 0 0),(fun k m=>by cases m),(fun e=>by cases e),fun _=>⟨rfl,rfl⟩,(fun e=>by cases e),fun e=>absurd e (by decide:¬ 1<=0)⟩
  ·exact⟨(by decide:5<=15),(by decide:Arity 5 2),(by decide:∀ k∈[0,1],k<3),(fun e=>by cases e),fun _=>⟨rfl,rfl⟩,(fun e=>by cases e),fun _ _=>(by decide:∀ k∈[0,1],k<2)⟩
 have F:FanOk bI:=wF ⟨by decide,fun i x h=>⟨(node i x h).ins,(node i x h).few⟩⟩
 have N:NamesOk bI:=by
  refine FnV.nv (enc:=i64) (PureV.flat rfl) fun h hB=>?_
  exact jK (K:=fun r=>r=0) (lr (fun s m=>wR m) (by decide) (by decide) rfl) hB
 refine⟨⟨by decide,rfl,N,F,(fun m h=>by cases h),by decide,by decide,by decide,node,by decide⟩,rfl,fun i x h=>?_⟩
 rcases pR h with⟨rfl,rfl⟩|⟨rfl,rfl⟩|⟨rfl,rfl⟩ <;> decide
structure Si where
 node:Nat
 pin:Nat
 v:Nat
deriving DecidableEq
structure VS (c:Circ) (s:Si):Prop where
 node:s.node<c.nodes.length
 pin:s.pin<=(insOf c s.node).length
 v:s.v<=1
def eqR (k n:Nat):List Rul :=
 if k=3\/k=13/\n=1 then [⟨0,0⟩,⟨1,1⟩] else if k=4 then [⟨0,1⟩,⟨1,0⟩] else if k=5 then [⟨0,0⟩] else if k=6 then [⟨0,1⟩] else if k=7 then [⟨1,1⟩] else if k=8 then [⟨1,0⟩] else []
theorem tp {k n:Nat}{r:Rul} (h:r∈eqR k n):r.pin<=1/\r.out<=1:=by
 unfold eqR at h
 split at h
 ·simp only[List.mem_cons,List.not_mem_nil,or_false] at h
  rcases h with rfl|rfl <;> decide
 split at h
 ·simp only[List.mem_cons,List.not_mem_nil,or_false] at h
  rcases h with rfl|rfl <;> decide
 split at h
 ·rw[List.mem_singleton] at h;subst h;decide
 split at h
 ·rw[List.mem_singleton] at h;subst h;decide
 split at h
 ·rw[List.mem_singleton] at h;subst h;decide
 split at h
 ·rw[List.mem_singleton] at h;subst h;decide
 ·cases h
theorem yo (k n:Nat):(eqR k n).length<=2:=by
 unfold eqR
 repeat' split
 all_goals decide
def zF (n:Nat) (r:Rul) (j:Nat):Si×Si:=(⟨n,j+1,r.pin⟩,⟨n,0,r.out⟩)
def tR (c:Circ) (n:Nat) (r:Rul):List (Si×Si):=(List.range (insOf c n).length).map (zF n r)
def xj (c:Circ) (n:Nat):List (Si×Si):=(eqR (kd c n) (insOf c n).length).flatMap (tR c n)
def dW (c:Circ) (i:Nat):List (Si×Si):=(List.range i).flatMap (xj c)
def km (c:Circ) (n:Nat):Option Ln:=match fanOf c n with
 |[l]=>if n∈c.outs then none else some l
 |_=>none
def vH (c:Circ) (n:Nat):List (Si×Si):=match km c n with
 |some l=>[(⟨n,0,0⟩,⟨l.node,l.pin+1,0⟩),(⟨n,0,1⟩,⟨l.node,l.pin+1,1⟩)]
 |none=>[]
def gB (c:Circ) (i:Nat):List (Si×Si):=(List.range i).flatMap (vH c)
def edgesN (c:Circ):List (Si×Si):=dW c c.nodes.length++gB c c.nodes.length
theorem sv (c:Circ) (i:Nat):dW c (i+1)=dW c i++xj c i:=by
 unfold dW
 rw[List.range_succ,List.flatMap_append]
 simp
theorem mT (c:Circ) (i:Nat):gB c (i+1)=gB c i++vH c i:=by
 unfold gB
 rw[List.range_succ,List.flatMap_append]
 simp
def df (c:Circ):Nat->Nat
 |0=>0
 |i+1=>df c i+2*((insOf c i).length+1)
def fsN (c:Circ):List Nat:=(List.range c.nodes.length).map (df c)
def npN (c:Circ):Nat:=df c c.nodes.length
def numN (c:Circ) (s:Si):Nat:=df c s.node+2*s.pin+s.v
theorem jf {c:Circ}{i j:Nat} (h:i<=j):df c i<=df c j:=by
 induction j with
 |zero =>
    have:i=0:=by omega
    rw[this];exact Nat.le_refl _
 |succ j ih =>
  by_cases q:i=j+1
  ·rw[q];exact Nat.le_refl _
  ·have:=ih (by omega)
   rw[df];omega
theorem rQ {c:Circ}{s:Si} (h:VS c s):numN c s<df c (s.node+1):=by
 have:=h.pin
 have:=h.v
 unfold numN
 rw[df];omega
theorem iv {c:Circ}{s:Si} (h:VS c s):numN c s<npN c:=Nat.lt_of_lt_of_le (rQ h) (jf h.node)
theorem xt {c:Circ}{s t:Si} (h:VS c s) (g:VS c t) (e:numN c s=numN c t):s=t:=by
 have h1:=rQ h
 have h2:=rQ g
 have hn:s.node=t.node:=by
  rcases Nat.lt_trichotomy s.node t.node with q|q|q
  ·have:=jf (c:=c) (show s.node+1<=t.node from q)
   have:df c t.node<=numN c t:=by unfold numN;omega
   omega
  ·exact q
  ·have:=jf (c:=c) (show t.node+1<=s.node from q)
   have:df c s.node<=numN c s:=by unfold numN;omega
   omega
 have a1:=h.v
 have a2:=g.v
 obtain⟨n,p,v⟩:=s
 obtain⟨n',p',v'⟩:=t
 dsimp only at hn a1 a2
 subst hn
 unfold numN at e
 dsimp only at e
 obtain rfl:p=p':=by omega
 obtain rfl:v=v':=by omega
 rfl
theorem mn {c:Circ} (C:Cir c):∀ i,i<=c.nodes.length->df c i<=i*34
 |0,_=>Nat.le_refl _
 |i+1,h=>by
  have:=mn C i (by omega)
  obtain⟨x,hx⟩:=aX (show i<c.nodes.length from h)
  have:=(C.good.node i x hx).few
  rw[df,bS hx];omega
theorem ug {c:Circ} (C:Cir c):npN c<=544:=by
 have:=mn C _ (Nat.le_refl _)
 have:=C.len
 unfold npN;omega
theorem yr {c:Circ}{i:Nat} (h:i<c.nodes.length):(fsN c)[i]?=some (df c i):=by
 unfold fsN
 rw[List.getElem?_map,List.getElem?_range h];rfl
theorem yJ {c:Circ} (C:Cir c) {K:List Nat×List Nat×Nat->Prop} (h:K (fsN c,List.range (npN c),npN c)):db c K:=by
 have hlen:=C.len
 have hnp:=ug C
 unfold db
 refine aR (fun s=>s.2.2<=c.nodes.length/\s.1=(List.range s.2.2).map (df c)/\s.2.1=df c s.2.2) (fun s=>c.nodes.length-s.2.2) (fun s=>s=(fsN c,npN c)) ?_ ⟨Nat.zero_le _,rfl,rfl⟩ ?_
 ·rintro k ⟨fs,n,i⟩ nx ⟨hi,hf,hn⟩ hnx hk
  dsimp only at hi hf hn
  refine⟨fun q=>?_,fun q=>hk _ ?_⟩
  ·have q:i<c.nodes.length:=bG.1 q
   obtain⟨x,hx⟩:=aX q
   have hfew:=(C.good.node i x hx).few
   have:=mn C i (by omega)
   refine⟨x,hx,?_,by omega,by omega,by omega,by omega,hnx _ ⟨q,?_,?_⟩ (by dsimp only;omega)⟩
   ·rw[hf,List.length_map,List.length_range,List.length_singleton];omega
   ·dsimp only
    rw[hf,hn,List.range_succ,List.map_append];rfl
   ·dsimp only
    rw[df,bS hx,hn]
  ·have q:c.nodes.length<=i:=bP.1 q
   obtain rfl:i=c.nodes.length:=by omega
   rw[hf,hn];rfl
 ·rintro _ rfl
  refine⟨by omega,by omega,?_⟩
  refine aR (fun s=>s.2<=npN c/\s.1=List.range s.2++List.replicate (npN c-s.2) 0) (fun s=>npN c-s.2) (fun s=>s=List.range (npN c)) ?_ ⟨Nat.zero_le _,by simp⟩ (fun _ e=>e ▸ h)
  rintro k ⟨ps,i⟩ nx ⟨hi,hp⟩ hnx hk
  dsimp only at hi hp
  refine⟨fun q=>?_,fun q=>hk _ ?_⟩
  ·have q:i<npN c:=bG.1 q
   have hl:i<ps.length:=by rw[hp];simp;omega
   refine⟨q,_,List.getElem?_eq_getElem hl,by omega,hnx _ ⟨q,?_⟩ (by dsimp only;omega)⟩
   dsimp only
   rw[hp,List.set_append_right _ _ (by simp),List.range_succ,List.append_assoc]
   congr 1
   rw[List.length_range,Nat.sub_self,show npN c-i=(npN c-(i+1))+1 by omega,List.replicate_succ]
   rfl
  ·have q:npN c<=i:=bP.1 q
   obtain rfl:i=npN c:=by omega
   rw[hp];simp
theorem vD {S:Type}{body:S->(S->Prop)->Prop} (Inv:Nat->S->Prop) (step:∀ n s next,Inv n s->(∀ m s',m<n->Inv m s'->next s')->body s next) {n:Nat}{s:S} (h:Inv n s):aM body s:=by
 have key:∀ N n s,Inv n s->n<N->sa body N s:=by
  intro N
  induction N with
  |zero=>intro n s _ h;omega
  |succ N ih=>exact fun n s hI hn=>step n s _ hI fun m s' h1 h2=>ih m s' h2 (by omega)
 exact⟨n+1,key _ n s h (by omega)⟩
theorem lJ {np i r:Nat}{fs ps:List Nat} (hl:ps.length=np) (hr:Rt ps i r) {K:List Nat×Nat->Prop} (h:∀ qs,SameR ps qs->K (qs,r)):bF np fs ps i K:=by
 obtain⟨n,hn⟩:=hr
 unfold bF
 refine vD (fun n s=>SameR ps s.1/\RtN s.1 n s.2 r) ?_ (n:=n) ⟨SameR.refl ps,hn⟩
 rintro n ⟨qs,i⟩ nx ⟨hs,hq⟩ hnx
 dsimp only at hs hq
 have hlq:qs.length=np:=hs.len.trans hl
 have hi:i<np:=hlq ▸ Rt.lt1 ⟨n,hq⟩
 match n,hq with
 |0,hq =>
  obtain⟨h1,rfl⟩:=hq
  exact⟨hi,i,h1,(fun q=>absurd rfl (eD.1 q)),fun _=>h qs hs⟩
 |n+1,⟨j,h1,h2,h3⟩ =>
  have hj:j<np:=hlq ▸ Rt.lt1 ⟨n,h3⟩
  obtain⟨k,hk⟩:=aX (l:=qs) (i:=j) (by rw[hlq];exact hj)
  refine⟨hi,j,h1,fun _=>⟨hi,j,h1,hj,k,hk,hi,j,h1,hi,k,List.getElem?_set_self (by rw[hlq];exact hi),?_⟩,fun q=>absurd (tz.1 q) h2⟩
  obtain⟨m,hm1,hm⟩:∃ m,m<=n/\RtN (qs.set i k) m k r:=by
   match n,h3 with
   |0,h3 =>
    obtain⟨e,rfl⟩:=h3
    rw[e] at hk;cases hk
    obtain⟨m,hm,g⟩:=RtN.sB h1 e h2 (show RtN qs 0 j j from⟨e,rfl⟩)
    exact⟨m,hm,g⟩
   |n+1,⟨k',e,_,h3⟩ =>
    rw[hk] at e;cases e
    obtain⟨m,hm,g⟩:=RtN.sB h1 hk h2 h3
    exact⟨m,by omega,g⟩
  exact hnx m _ (by omega) ⟨hs.trans (SameR.sB h1 hk h2),hm⟩
theorem oM {c:Circ} (C:Cir c) {s:Si} (hs:VS c s) {np:Nat}{ps:List Nat}{pin:Int} (hp:pin+Int.ofNat 1=Int.ofNat s.pin) {K:Nat->Prop} (h:K (numN c s)):bA np (fsN c) ps s.node pin s.v K:=by
 have h1:=iv hs
 have h2:=ug C
 have h3:=hs.v
 unfold numN at h1
 unfold bA
 exact⟨_,yr hs.node,s.pin,hp,by omega,by omega,by omega,by omega,by omega,h⟩
abbrev EdgeI (c:Circ) (es:List (Si×Si)) (ps:List Nat):Prop:=UfI (VS c) (numN c) (fun u w=>(u,w)∈es) ps (npN c)
theorem UfI.congr {α:Type}{V:α->Prop}{num:α->Nat}{E F:α->α->Prop}{ps:List Nat}{np:Nat} (U:UfI V num E ps np) (h:∀ a b,E a b↔F a b):UfI V num F ps np:=by
 have:E=F:=by funext a b;exact propext (h a b)
 exact this ▸ U
theorem uM {c:Circ}{es:List (Si×Si)}{ps:List Nat} (U:EdgeI c es ps) {x y:Si} (hx:VS c x) (hy:VS c y) {fs:List Nat}{K:List Nat->Prop} (h:∀ qs,EdgeI c (es++[(x,y)]) qs->K qs):cz (npN c) fs ps (numN c x) (numN c y) K:=by
 obtain⟨rx,hrx⟩:=U.fo (numN c x) (U.len ▸ iv hx)
 obtain⟨ry,hry⟩:=U.fo (numN c y) (U.len ▸ iv hy)
 unfold cz
 refine lJ U.len hrx fun qs hq=>?_
 have U1:=U.same hq
 refine lJ U1.len (hq.rt _ _ hry) fun qs2 hq2=>?_
 have U2:=U1.same hq2
 have h1:=hq2.rt _ _ (hq.rt _ _ hrx)
 have h2:=hq2.rt _ _ (hq.rt _ _ hry)
 refine⟨by rw[<- U2.len];exact h1.lt,_,h1.root,h _ ((U2.join hx hy h1 h2).congr fun a b=>?_)⟩
 rw[List.mem_append,List.mem_singleton,Prod.mk.injEq]
theorem mM {k:Nat}{K:Rul×Bool->Prop} (h5:k=5->K (⟨0,0⟩,true)) (h6:k=6->K (⟨0,1⟩,true)) (h7:k=7->K (⟨1,1⟩,true)) (h8:k=8->K (⟨1,0⟩,true)) (h:k≠5->k≠6->k≠7->k≠8->K (⟨0,0⟩,false)):aW k K :=
 ⟨fun q=>h5 (fP.1 q),fun q5=>⟨fun q=>h6 (fP.1 q),fun q6=>⟨fun q=>h7 (fP.1 q),fun q7=>⟨fun q=>h8 (fP.1 q),fun q8=>h (iF.1 q5) (iF.1 q6) (iF.1 q7) (iF.1 q8)⟩⟩⟩⟩
theorem wQ {x:Node}{K:List Rul->Prop} (h:K (eqR x.kind x.ins.length)):ch x K:=by
 have fin:(x.kind≠3)->¬ (x.kind=13/\x.ins.length=1)->x.kind≠4->aW x.kind (fun r2=>(r2.2=true->K ([(⟨r2.1.pin,r2.1.out⟩:Rul)]:(List Rul)))/\(r2.2=false->K ([]))):=by
  intro h3 h13 h4
  have e:eqR x.kind x.ins.length=if x.kind=5 then [⟨0,0⟩] else if x.kind=6 then [⟨0,1⟩] else if x.kind=7 then [⟨1,1⟩] else if x.kind=8 then [⟨1,0⟩] else []:=by
   unfold eqR
   rw[if_neg (fun q=>q.elim h3 h13),if_neg h4]
  rw[e] at h
  refine mM (fun q=>?_) (fun q=>?_) (fun q=>?_) (fun q=>?_) fun q5 q6 q7 q8=>?_
  ·exact⟨fun _=>by simpa[q] using h,fun q=>by cases q⟩
  ·exact⟨fun _=>by simpa[q] using h,fun q=>by cases q⟩
  ·exact⟨fun _=>by simpa[q] using h,fun q=>by cases q⟩
  ·exact⟨fun _=>by simpa[q] using h,fun q=>by cases q⟩
  ·exact⟨(fun q=>by cases q),fun _=>by simpa[q5,q6,q7,q8] using h⟩
 unfold ch
 refine⟨fun q=>?_,fun q3=>⟨fun q13=>⟨fun q1=>?_,fun q1=>?_⟩,fun q13=>⟨fun q4=>?_,fun q4=>?_⟩⟩⟩
 ·have q:=fP.1 q
  simpa[eqR,q] using h
 ·have q13:=fP.1 q13
  have q1:=fP.1 q1
  simpa[eqR,q13,q1] using h
 ·have q13:=fP.1 q13
  exact fin (iF.1 q3) (fun q=>iF.1 q1 q.2) (by omega)
 ·have q4:=fP.1 q4
  simpa[eqR,q4] using h
 ·exact fin (iF.1 q3) (fun q=>iF.1 q13 q.1) (iF.1 q4)
theorem yg {l:List Nat}{x:Nat} (hl:l.length<2 ^ 60) {K:Int->Prop} (h1:x∈l->∀ i:Nat,K (Int.ofNat i)) (h2:x ∉ l->K (Int.negSucc 0)):dV l x K:=by
 unfold dV
 refine aR (fun i=>i<=l.length/\x ∉ l.take i) (fun i=>l.length-i) (fun _=>x ∉ l) ?_ ⟨Nat.zero_le _,by simp⟩ (fun _ q=>h2 q)
 rintro k i nx ⟨hi,hn⟩ hnx hk
 refine⟨fun q=>?_,fun q=>hk _ ?_⟩
 ·have q:i<l.length:=bG.1 q
  obtain⟨y,hy⟩:=aX q
  refine⟨y,hy,fun e=>h1 ?_ i,fun e=>⟨by omega,hnx _ ⟨q,?_⟩ (by omega)⟩⟩
  ·rw[fP.1 e];exact List.mem_of_getElem? hy
  ·rw[lC hy,aO]
   exact fun m=>m.elim hn (iF.1 e)
 ·have q:l.length<=i:=bP.1 q
  rw[List.take_of_length_le q] at hn
  exact hn
theorem rM {l:List Nat}{x:Nat} (hl:l.length<2 ^ 60) {K:Bool->Prop} (h:K (decide (x∈l))):cN l x K:=by
 unfold cN
 refine yg hl (fun m i=>?_) fun m=>?_
 ·rw[decide_eq_true m] at h
  rw[yf i];exact h
 ·rw[decide_eq_false m] at h
  exact h
theorem vb {c:Circ}{n:Nat}{x:Node} (hx:c.nodes[n]?=some x) {r:Rul} (hr:r∈eqR x.kind x.ins.length):VS c ⟨n,0,r.out⟩:=⟨ag hx,Nat.zero_le _,(tp hr).2⟩
theorem vm {c:Circ}{n j:Nat}{x:Node} (hx:c.nodes[n]?=some x) (hj:j<x.ins.length) {r:Rul} (hr:r∈eqR x.kind x.ins.length):VS c ⟨n,j+1,r.pin⟩:=⟨ag hx,by rw[bS hx];exact hj,(tp hr).1⟩
theorem uG {c:Circ}{n:Nat}{l:Ln} (h:l∈fanOf c n):∃ x,c.nodes[l.node]?=some x/\x.ins[l.pin]?=some n:=by
 unfold fanOf at h
 obtain⟨p,h1,h2⟩:=List.mem_flatMap.1 h
 unfold bh at h2
 obtain⟨q,hq,rfl⟩:=List.mem_map.1 h2
 obtain⟨hq1,hq2⟩:=List.mem_filter.1 hq
 have h1:=List.mem_zipIdx_iff_getElem?.1 h1
 have hq1:=List.mem_zipIdx_iff_getElem?.1 hq1
 have hq2:q.1=n:=by simpa using hq2
 exact⟨p.1,h1,hq2 ▸ hq1⟩
theorem qE {c:Circ}{n:Nat}{l:Ln} (h:km c n=some l):fanOf c n=[l]/\n ∉ c.outs:=by
 unfold km at h
 split at h
 ·rename_i l' e
  split at h
  ·cases h
  ·cases h
   exact⟨e,by assumption⟩
 ·cases h
theorem vW {c:Circ} (C:Cir c) {K:List Nat×List Nat×Nat->Prop} (h:∀ ps,EdgeI c (edgesN c) ps->K (fsN c,ps,npN c)):cE c K:=by
 have hlen:=C.len
 have hnp:=ug C
 unfold cE
 refine yJ C ?_
 have U0:EdgeI c [] (List.range (npN c)):=by
  have hr:∀ i r,Rt (List.range (npN c)) i r->i=r:=by
   rintro i r ⟨n,h⟩
   cases n with
   |zero=>exact h.2
   |succ n =>
    obtain⟨j,h1,h2,_⟩:=h
    obtain⟨h3,h4⟩:=List.getElem?_eq_some_iff.1 h1
    rw[List.getElem_range] at h4
    exact absurd h4.symm h2
  refine⟨List.length_range,fun i hi=>⟨i,Rt.self ?_⟩,fun a ha=>iv ha,fun a b r s ha hb h1 h2=>?_⟩
  ·rw[List.length_range] at hi
   exact List.getElem?_range hi
  ·rw[<- hr _ _ h1,<- hr _ _ h2]
   constructor
   ·intro e
    rw[xt ha hb e];exact .refl _
   ·intro q
    have:a=b:=q.inv (f:=id) (fun _ _ m=>by cases m)
    rw[this]
 refine aR (fun s=>s.2<=c.nodes.length/\EdgeI c (dW c s.2) s.1) (fun s=>c.nodes.length-s.2) (fun s=>EdgeI c (dW c c.nodes.length) s) ?_ ⟨Nat.zero_le _,(show EdgeI c (dW c 0) (List.range (npN c)) from U0)⟩ ?_
 ·rintro k ⟨ps,i⟩ nx ⟨hi,hU⟩ hnx hk
  dsimp only at hi hU
  refine⟨fun q=>?_,fun q=>hk _ ?_⟩
  ·have q:i<c.nodes.length:=bG.1 q
   obtain⟨x,hx⟩:=aX q
   have hfew:=(C.good.node i x hx).few
   refine eZ (fun s=>EdgeI c (dW c (i+1)) s) (fun k2 hk2=>⟨x,hx,wQ ?_⟩) fun ps2 hU2=>⟨by omega,hnx _ ⟨q,hU2⟩ (by dsimp only;omega)⟩
   have hlen2:=yo x.kind x.ins.length
   refine bg (fun s=>s.2<=(eqR x.kind x.ins.length).length/\EdgeI c (dW c i++((eqR x.kind x.ins.length).take s.2).flatMap (tR c i)) s.1) (fun s=>(eqR x.kind x.ins.length).length-s.2) ?_ ⟨Nat.zero_le _,by simpa using hU⟩
   rintro⟨ps,t⟩ nx3 ⟨ht,hU⟩ hnx3
   dsimp only at ht hU
   refine⟨fun q3=>?_,fun q3=>hk2 _ ?_⟩
   ·have q3:t<(eqR x.kind x.ins.length).length:=bG.1 q3
    obtain⟨r,hr⟩:=aX q3
    have hrm:=List.mem_of_getElem? hr
    refine eZ (fun s=>EdgeI c (dW c i++((eqR x.kind x.ins.length).take t).flatMap (tR c i)++tR c i r) s) (fun k4 hk4=>⟨r,hr,?_⟩) fun ps2 hU2=>⟨by omega,hnx3 _ ⟨q3,?_⟩ (by dsimp only;omega)⟩
    ·refine bg (fun s=>s.2<=x.ins.length/\EdgeI c (dW c i++((eqR x.kind x.ins.length).take t).flatMap (tR c i)++(List.range s.2).map (zF i r)) s.1) (fun s=>x.ins.length-s.2) ?_ ⟨Nat.zero_le _,by simpa using hU⟩
     rintro⟨ps,j⟩ nx5 ⟨hj,hU⟩ hnx5
     dsimp only at hj hU
     refine⟨fun q5=>?_,fun q5=>hk4 _ ?_⟩
     ·have q5:j<x.ins.length:=bG.1 q5
      have v1:=vm hx q5 hrm
      have v2:=vb hx hrm
      refine oM C v1 (by simp only[Int.ofNat_eq_natCast];omega) (oM C v2 (by rfl) (uM hU v1 v2 fun qs hQ=>⟨by omega,hnx5 _ ⟨q5,?_⟩ (by dsimp only;omega)⟩))
      dsimp only
      rw[List.range_succ,List.map_append,<- List.append_assoc]
      exact hQ
     ·have q5:x.ins.length<=j:=bP.1 q5
      obtain rfl:j=x.ins.length:=by omega
      have e:tR c i r=(List.range x.ins.length).map (zF i r):=by unfold tR;rw[bS hx]
      rw[e];exact hU
    ·dsimp only
     rw[lC hr,List.flatMap_append,<- List.append_assoc]
     simpa using hU2
   ·have q3:(eqR x.kind x.ins.length).length<=t:=bP.1 q3
    rw[List.take_of_length_le q3] at hU
    rw[sv]
    unfold xj
    rw[bS hx,kl hx]
    exact hU
  ·have q:c.nodes.length<=i:=bP.1 q
   obtain rfl:i=c.nodes.length:=by omega
   exact hU
 ·intro ps1 hU1
  refine eZ (fun s=>EdgeI c (edgesN c) s) (fun k hk=>⟨C.good.fanOk,?_⟩) (fun ps hU=>h ps hU)
  have hfl:(xr c).length=c.nodes.length:=by unfold xr jZ;simp
  refine bg (fun s=>s.2<=c.nodes.length/\EdgeI c (dW c c.nodes.length++gB c s.2) s.1) (fun s=>c.nodes.length-s.2) ?_ ⟨Nat.zero_le _,by simpa[gB] using hU1⟩
  rintro⟨ps,i⟩ nx ⟨hi,hU⟩ hnx
  dsimp only at hi hU
  refine⟨fun q=>?_,fun q=>hk _ ?_⟩
  ·have q:i<c.nodes.length:=hfl ▸ bG.1 q
   have hget:(xr c)[i]?=some ((fanOf c i).map Ln.toZ):=by
    unfold xr
    rw[List.getElem?_map,nY q];rfl
   refine eZ (fun s=>EdgeI c (dW c c.nodes.length++gB c (i+1)) s) (fun k2 hk2=>⟨_,hget,?_⟩) fun ps2 hU2=>⟨by omega,hnx _ ⟨q,hU2⟩ (by dsimp only;omega)⟩
   refine eZ (fun b=>b=(km c i).isSome) (fun k3 hk3=>⟨fun e=>?_,fun e=>hk3 _ ?_⟩) ?_
   ·have e:=fP.1 e
    rw[List.length_map] at e
    obtain⟨l,hl⟩:=List.length_eq_one_iff.1 e
    refine rM (by have:=C.good.outsLen;omega) (hk3 _ ?_)
    unfold km
    rw[hl]
    by_cases m:i∈c.outs
    ·simp[m]
    ·simp[m]
   ·have e:=iF.1 e
    rw[List.length_map] at e
    unfold km
    split
    ·rename_i l hl
     rw[hl] at e;exact absurd rfl e
    ·rfl
   ·rintro b rfl
    cases hs:km c i with
    |none =>
     refine⟨fun q=>(by cases q),fun _=>hk2 _ ?_⟩
     rw[mT]
     unfold vH
     rw[hs,List.append_nil]
     exact hU
    |some l =>
     refine⟨fun _=>?_,fun q=>by cases q⟩
     obtain⟨hl,_⟩:=qE hs
     obtain⟨x,hx,hp⟩:=uG (c:=c) (n:=i) (l:=l) (by rw[hl];exact List.mem_singleton.2 rfl)
     have hE:gB c (i+1)=gB c i++[(⟨i,0,0⟩,⟨l.node,l.pin+1,0⟩),(⟨i,0,1⟩,⟨l.node,l.pin+1,1⟩)]:=by
      rw[mT]
      unfold vH
      rw[hs]
     rw[hE] at hk2
     refine bg (fun s=>s.2<=2/\EdgeI c (dW c c.nodes.length++gB c i++([(⟨i,0,0⟩,⟨l.node,l.pin+1,0⟩),(⟨i,0,1⟩,⟨l.node,l.pin+1,1⟩)]:List (Si×Si)).take s.2) s.1) (fun s=>2-s.2) ?_ ⟨Nat.zero_le _,by simpa using hU⟩
     rintro⟨ps,v⟩ nx4 ⟨hv,hU⟩ hnx4
     dsimp only at hv hU
     refine⟨fun q4=>?_,fun q4=>hk2 _ ?_⟩
     ·have q4:v<=1:=qH.1 q4
      have v1:VS c ⟨i,0,v⟩:=⟨q,Nat.zero_le _,q4⟩
      have v2:VS c ⟨l.node,l.pin+1,v⟩:=⟨ag hx,by rw[bS hx];exact ag hp,q4⟩
      have hg:((fanOf c i).map Ln.toZ)[0]?=some l.toZ:=by rw[hl];rfl
      refine oM C v1 (by rfl) ⟨_,hg,_,hg,oM C v2 (by unfold Ln.toZ;simp only[Int.ofNat_eq_natCast];omega) (uM hU v1 v2 fun qs hQ=>⟨by omega,hnx4 _ ⟨by dsimp only;omega,?_⟩ (by dsimp only;omega)⟩)⟩
      dsimp only
      rw[List.append_assoc] at hQ
      have hv:v=0\/v=1:=by omega
      rcases hv with rfl|rfl
      ·exact hQ
      ·exact hQ
     ·have q4:1<v:=qt.1 q4
      obtain rfl:v=2:=by omega
      rw[<- List.append_assoc]
      exact hU
  ·have q:c.nodes.length<=i:=hfl ▸ bP.1 q
   obtain rfl:i=c.nodes.length:=by omega
   exact hU
instance decVS (c:Circ) (s:Si):Decidable (VS c s):=decidable_of_iff (s.node<c.nodes.length/\s.pin<=(insOf c s.node).length/\s.v<=1) ⟨fun ⟨a,b,d⟩=>⟨a,b,d⟩,fun h=>⟨h.node,h.pin,h.v⟩⟩
def zh (c:Circ) (n v:Nat):Option Rul:=(eqR (kd c n) (insOf c n).length).find? fun r=>r.pin==v
def wL (c:Circ) (s:Si):Option Si :=
 if s.pin=0 then (km c s.node).map fun l=>⟨l.node,l.pin+1,s.v⟩ else (zh c s.node s.v).map fun r=>⟨s.node,0,r.out⟩
def down (c:Circ) (s:Si):Option Si:=if VS c s then wL c s else none
theorem sQ {k n v:Nat}{r:Rul}:(eqR k n).find? (fun r=>r.pin==v)=some r↔r∈eqR k n/\r.pin=v:=by
 constructor
 ·intro h
  exact⟨List.mem_of_find?_eq_some h,by simpa using List.find?_some h⟩
 ·rintro⟨m,rfl⟩
  unfold eqR at m ⊢
  split
  ·rename_i q
   rw[if_pos q] at m
   simp only[List.mem_cons,List.not_mem_nil,or_false] at m
   rcases m with rfl|rfl <;> rfl
  rename_i q
  rw[if_neg q] at m
  split
  ·rename_i q
   rw[if_pos q] at m
   simp only[List.mem_cons,List.not_mem_nil,or_false] at m
   rcases m with rfl|rfl <;> rfl
  rename_i q
  rw[if_neg q] at m
  split
  ·rename_i q
   rw[if_pos q,List.mem_singleton] at m
   subst m;rfl
  rename_i q
  rw[if_neg q] at m
  split
  ·rename_i q
   rw[if_pos q,List.mem_singleton] at m
   subst m;rfl
  rename_i q
  rw[if_neg q] at m
  split
  ·rename_i q
   rw[if_pos q,List.mem_singleton] at m
   subst m;rfl
  rename_i q
  rw[if_neg q] at m
  split
  ·rename_i q
   rw[if_pos q,List.mem_singleton] at m
   subst m;rfl
  rename_i q
  rw[if_neg q] at m
  cases m
theorem oC {c:Circ}{n j v:Nat}{w:Si}:down c ⟨n,j+1,v⟩=some w↔n<c.nodes.length/\j<(insOf c n).length/\∃ r∈eqR (kd c n) (insOf c n).length,r.pin=v/\w=⟨n,0,r.out⟩:=by
 unfold down wL zh
 by_cases V:VS c ⟨n,j+1,v⟩
 ·rw[if_pos V,if_neg (by simp)]
  constructor
  ·intro h
   obtain⟨r,hr,rfl⟩:=Option.map_eq_some_iff.1 h
   obtain⟨h1,h2⟩:=sQ.1 hr
   exact⟨V.node,V.pin,r,h1,h2,rfl⟩
  ·rintro⟨_,_,r,h1,h2,rfl⟩
   exact Option.map_eq_some_iff.2 ⟨r,sQ.2 ⟨h1,h2⟩,rfl⟩
 ·rw[if_neg V]
  constructor
  ·intro h;cases h
  ·rintro⟨h1,h2,r,h3,rfl,_⟩
   exact absurd ⟨h1,h2,(tp h3).1⟩ V
theorem lI {c:Circ}{n v:Nat}{w:Si}:down c ⟨n,0,v⟩=some w↔n<c.nodes.length/\v<=1/\∃ l,km c n=some l/\w=⟨l.node,l.pin+1,v⟩:=by
 unfold down wL
 by_cases V:VS c ⟨n,0,v⟩
 ·rw[if_pos V,if_pos rfl]
  constructor
  ·intro h
   obtain⟨l,hl,rfl⟩:=Option.map_eq_some_iff.1 h
   exact⟨V.node,V.v,l,hl,rfl⟩
  ·rintro⟨_,_,l,hl,rfl⟩
   exact Option.map_eq_some_iff.2 ⟨l,hl,rfl⟩
 ·rw[if_neg V]
  constructor
  ·intro h;cases h
  ·rintro⟨h1,h2,_⟩
   exact absurd ⟨h1,Nat.zero_le _,h2⟩ V
theorem wG {c:Circ}{n:Nat}{l:Ln} (h:km c n=some l):∃ x,c.nodes[l.node]?=some x/\x.ins[l.pin]?=some n :=
 uG (by rw[(qE h).1];exact List.mem_singleton.2 rfl)
theorem vL {c:Circ}{u w:Si}:(u,w)∈edgesN c↔down c u=some w:=by
 unfold edgesN
 rw[List.mem_append]
 constructor
 ·rintro (m|m)
  ·obtain⟨n,hn,m⟩:=List.mem_flatMap.1 m
   obtain⟨r,hr,m⟩:=List.mem_flatMap.1 m
   obtain⟨j,hj,e⟩:=List.mem_map.1 m
   obtain⟨rfl,rfl⟩:=Prod.mk.inj e
   exact oC.2 ⟨List.mem_range.1 hn,List.mem_range.1 hj,r,hr,rfl,rfl⟩
  ·obtain⟨n,hn,m⟩:=List.mem_flatMap.1 m
   unfold vH at m
   split at m
   ·rename_i l hl
    simp only[List.mem_cons,List.not_mem_nil,or_false,Prod.mk.injEq] at m
    rcases m with⟨rfl,rfl⟩|⟨rfl,rfl⟩
    ·exact lI.2 ⟨List.mem_range.1 hn,by decide,l,hl,rfl⟩
    ·exact lI.2 ⟨List.mem_range.1 hn,by decide,l,hl,rfl⟩
   ·cases m
 ·intro h
  obtain⟨n,p,v⟩:=u
  cases p with
  |zero =>
   obtain⟨h1,h2,l,hl,rfl⟩:=lI.1 h
   refine .inr (List.mem_flatMap.2 ⟨n,List.mem_range.2 h1,?_⟩)
   unfold vH
   rw[hl]
   have:v=0\/v=1:=by omega
   rcases this with rfl|rfl <;> simp
  |succ j =>
   obtain⟨h1,h2,r,hr,rfl,rfl⟩:=oC.1 h
   exact .inl (List.mem_flatMap.2 ⟨n,List.mem_range.2 h1,List.mem_flatMap.2 ⟨r,hr,List.mem_map.2 ⟨j,List.mem_range.2 h2,rfl⟩⟩⟩)
theorem vg {k n:Nat}{r:Rul} (h:r∈eqR k n):3<=k/\k<=13:=by
 unfold eqR at h
 split at h
 ·omega
 split at h
 ·omega
 split at h
 ·omega
 split at h
 ·omega
 split at h
 ·omega
 split at h
 ·omega
 ·cases h
theorem tD {n:Nat} (h:Arity 0 n):n=0:=by
 obtain⟨h1,h2⟩:=h
 have e2:hiZ 0=0:=by decide
 rw[e2] at h2
 have:(Int.ofNat n)=(n:Int):=rfl
 omega
def lvl (c:Circ) (s:Si):Nat:=if s.pin=0 then 2*(16-s.node)+1 else if kd c s.node=14 then 0 else 2*(16-s.node)+2
theorem zV (c:Circ) (s:Si):lvl c s<=34:=by
 unfold lvl
 split
 ·omega
 ·split <;> omega
theorem yj {c:Circ} (C:Cir c) (u w:Si) (h:down c u=some w):lvl c w<lvl c u:=by
 have hlen:=C.len
 obtain⟨n,p,v⟩:=u
 cases p with
 |zero =>
  obtain⟨h1,h2,l,hl,rfl⟩:=lI.1 h
  obtain⟨x,hx,hp⟩:=wG hl
  unfold lvl
  rw[if_pos rfl,if_neg (by simp)]
  dsimp only
  split
  ·omega
  ·rename_i q
   rw[kl hx] at q
   have hk:=C.kinds _ _ hx
   have g:=C.good.node _ _ hx
   have hk0:x.kind≠0:=fun e=>by
    have a:=g.arity
    rw[e] at a
    have:=tD a
    have:=ag hp
    omega
   have:=g.acyc (by omega) (by omega) n (List.mem_of_getElem? hp)
   have:=ag hx
   omega
 |succ j =>
  obtain⟨h1,h2,r,hr,rfl,rfl⟩:=oC.1 h
  have:=vg hr
  unfold lvl
  rw[if_pos rfl,if_neg (by simp),if_neg (by dsimp only;omega)]
  dsimp only
  omega
def clsN (c:Circ) (s:Si):Si:=ji (down c) 34 s
theorem zJ {c:Circ} (C:Cir c) {a b:Si}:Cn (fun u w=>(u,w)∈edgesN c) a b↔clsN c a=clsN c b:=by
 have:=zI (down:=down c) (yj C) (N:=34) (zV c) (a:=a) (b:=b)
 unfold clsN
 rw[<- this]
 have e:(fun u w=>(u,w)∈edgesN c)=fun u w=>down c u=some w:=by
  funext u w;exact propext vL
 rw[e]
def fltS (s:Si):Flt:=⟨0,⟨s.node,Int.ofNat s.pin-1⟩,s.v,0⟩
theorem zc (n j v:Nat):fltS ⟨n,j+1,v⟩=⟨0,⟨n,Int.ofNat j⟩,v,0⟩:=by
 unfold fltS
 have:Int.ofNat (j+1)-1=Int.ofNat j:=by simp only[Int.ofNat_eq_natCast];omega
 dsimp only
 rw[this]
theorem xX {c:Circ}{s:Si} (h:VS c s):StuckOk c (fltS s):=by
 have:=h.pin
 refine⟨rfl,h.v,rfl,h.node,?_,?_⟩
 ·unfold fltS;simp only[Int.ofNat_eq_natCast];omega
 ·unfold fltS;simp only[Int.ofNat_eq_natCast];omega
theorem yG {s t:Si} (h:fltS s=fltS t):s=t:=by
 obtain⟨n,p,v⟩:=s
 obtain⟨n',p',v'⟩:=t
 unfold fltS at h
 simp only[Flt.mk.injEq,LnZ.mk.injEq,Int.ofNat_eq_natCast,and_true,true_and] at h
 obtain⟨⟨rfl,h2⟩,rfl⟩:=h
 obtain rfl:p=p':=by omega
 rfl
theorem Ac {c:Circ}{f:Flt} (F:StuckOk c f):∃ s,VS c s/\f=fltS s:=by
 obtain⟨m,⟨n,p⟩,v,o⟩:=f
 have h1:=F.model
 have h2:=F.value
 have h3:=F.other
 have h4:=F.node
 have h5:=F.pin1
 have h6:=F.pin2
 dsimp only at h1 h2 h3 h4 h5 h6
 subst h1 h3
 refine⟨⟨n,(p+1).toNat,v⟩,⟨h4,?_,h2⟩,?_⟩
 ·simp only[Int.ofNat_eq_natCast] at h6
  dsimp only;omega
 ·unfold fltS
  simp only[Flt.mk.injEq,LnZ.mk.injEq,Int.ofNat_eq_natCast,and_true,true_and]
  omega
def yz (f:Flt):Si:=⟨f.line.node,(f.line.pin+1).toNat,f.value⟩
theorem xM (s:Si):yz (fltS s)=s:=by
 obtain⟨n,p,v⟩:=s
 unfold yz fltS
 have:(Int.ofNat p-1+1).toNat=p:=by simp only[Int.ofNat_eq_natCast];omega
 dsimp only
 rw[this]
def dq (c:Circ) (f:Flt):Flt:=if f.model=0 then fltS (clsN c (yz f)) else f
theorem oe (c:Circ) (s:Si):dq c (fltS s)=fltS (clsN c s):=by
 unfold dq
 rw[if_pos (by rfl),xM]
theorem tE {c:Circ}{f:Flt} (h:f.model≠0):dq c f=f:=if_neg h
def jk (c:Circ) (acc:List Flt) (f:Flt):List Flt:=if dq c f∈acc then acc else acc++[dq c f]
def ksF (c:Circ) (l:List Flt):List Flt:=l.foldl (jk c) []
theorem eT (c:Circ) (l:List Flt) (f:Flt):ksF c (l++[f])=jk c (ksF c l) f:=by unfold ksF;rw[List.foldl_append];rfl
theorem jN {α:Type}{P:List α->Prop} (h0:P []) (h1:∀ p x,P p->P (p++[x])) (l:List α):P l:=by
 have key:∀ n (l:List α),l.length=n->P l:=by
  intro n
  induction n with
  |zero=>intro l h;rw[List.length_eq_zero_iff.1 h];exact h0
  |succ n ih =>
   intro l h
   rcases List.eq_nil_or_concat l with rfl|⟨p,x,rfl⟩
   ·exact h0
   ·rw[List.concat_eq_append] at h ⊢
    refine h1 p x (ih p ?_)
    rw[List.length_append,List.length_singleton] at h;omega
 exact key _ l rfl
theorem fu {c:Circ}{l:List Flt}{k:Flt}:k∈ksF c l ↔ ∃ f∈l,dq c f=k:=by
 refine jN (P:=fun l=>k∈ksF c l ↔ ∃ f∈l,dq c f=k) ?_ ?_ l
 ·unfold ksF;simp
 ·intro p x ih
  rw[eT]
  unfold jk
  split
  ·rename_i h
   rw[ih]
   constructor
   ·rintro⟨f,m,e⟩
    exact⟨f,List.mem_append_left _ m,e⟩
   ·rintro⟨f,m,e⟩
    rcases aO.1 m with m|rfl
    ·exact⟨f,m,e⟩
    ·rw[e] at h;exact ih.1 h
  ·rw[aO,ih]
   constructor
   ·rintro (⟨f,m,e⟩|rfl)
    ·exact⟨f,List.mem_append_left _ m,e⟩
    ·exact⟨x,aO.2 (.inr rfl),rfl⟩
   ·rintro⟨f,m,e⟩
    rcases aO.1 m with m|rfl
    ·exact .inl ⟨f,m,e⟩
    ·exact .inr e.symm
theorem qo (c:Circ) (l:List Flt):(ksF c l).Nodup:=by
 refine jN (P:=fun l=>(ksF c l).Nodup) List.nodup_nil ?_ l
 intro p x ih
 rw[eT]
 unfold jk
 split
 ·exact ih
 ·rename_i h
  refine List.nodup_append.2 ⟨ih,by simp,?_⟩
  intro a ha b hb
  rw[List.mem_singleton] at hb
  rintro rfl
  subst hb
  exact h ha
theorem nE (c:Circ) (l:List Flt):(ksF c l).length<=l.length:=by
 refine jN (P:=fun l=>(ksF c l).length<=l.length) (Nat.le_refl _) ?_ l
 intro p x ih
 rw[eT,List.length_append,List.length_singleton]
 unfold jk
 split
 ·omega
 ·rw[List.length_append,List.length_singleton];omega
def clsOf (c:Circ) (l:List Flt) (f:Flt):Nat:=(ksF c l).idxOf (dq c f)
def osN (c:Circ) (l:List Flt):List Nat:=l.map (clsOf c l)
def iD (c:Circ) (l:List Flt) (k:Flt):List Nat:=(List.range l.length).filter fun m=>decide ((l[m]?).map (dq c)=some k)
def RN (c:Circ) (l:List Flt):List (List Nat):=(ksF c l).map (iD c l)
theorem mg (c:Circ) (l:List Flt):(RN c l).length=(ksF c l).length:=List.length_map ..
theorem jV (c:Circ) (p:List Flt) (x k:Flt):iD c (p++[x]) k=iD c p k++if dq c x=k then [p.length] else []:=by
 unfold iD
 rw[List.length_append,List.length_singleton,List.range_succ,List.filter_append]
 congr 1
 ·refine List.filter_congr fun m hm=>?_
  rw[List.getElem?_append_left (List.mem_range.1 hm)]
 ·have e:(p++[x])[p.length]?=some x:=by simp
  by_cases h:dq c x=k
  ·rw[if_pos h];simp[h]
  ·rw[if_neg h];simp[h]
theorem vz {c:Circ}{p:List Flt}{k:Flt} (h:k ∉ ksF c p):iD c p k=[]:=by
 unfold iD
 rw[List.filter_eq_nil_iff]
 intro m _ q
 rw[decide_eq_true_eq] at q
 obtain⟨f,hf,e⟩:=Option.map_eq_some_iff.1 q
 exact h (fu.2 ⟨f,List.mem_of_getElem? hf,e⟩)
theorem lA {c:Circ}{l:List Flt}{k:Flt}{m:Nat}:m∈iD c l k ↔ ∃ f,l[m]?=some f/\dq c f=k:=by
 unfold iD
 rw[List.mem_filter,List.mem_range,decide_eq_true_eq,Option.map_eq_some_iff]
 constructor
 ·rintro⟨_,f,h⟩;exact⟨f,h⟩
 ·rintro⟨f,h⟩;exact⟨ag h.1,f,h⟩
theorem sJ (c:Circ) (l:List Flt) (k:Flt):(iD c l k).length<=l.length:=by
 unfold iD
 exact Nat.le_trans (List.length_filter_le _ _) (by rw[List.length_range];exact Nat.le_refl _)
theorem qL {l:List Flt}{k:Flt} (h:k∈l):l[l.idxOf k]?=some k:=by
 rw[List.getElem?_eq_getElem (List.idxOf_lt_length_iff.2 h),List.getElem_idxOf]
theorem xm {l:List Flt} (nd:l.Nodup) {j:Nat}{k:Flt} (h:l[j]?=some k):l.idxOf k=j:=by
 obtain⟨h1,rfl⟩:=List.getElem?_eq_some_iff.1 h
 have h3:=List.idxOf_lt_length_iff.2 (List.getElem_mem h1)
 have h4:l[l.idxOf l[j]]=l[j]:=List.getElem_idxOf h3
 rcases Nat.lt_trichotomy (l.idxOf l[j]) j with q|q|q
 ·exact absurd h4 (List.pairwise_iff_getElem.1 nd _ _ h3 h1 q)
 ·exact q
 ·exact absurd h4.symm (List.pairwise_iff_getElem.1 nd _ _ h1 h3 q)
def ixO (ks:List Flt) (k:Flt):Option Nat:=if k∈ks then some (ks.idxOf k) else none
theorem uO {ks:List Flt}{k:Flt} (h:k ∉ ks):ixO (ks++[k]) k=some ks.length:=by
 unfold ixO
 rw[if_pos (aO.2 (.inr rfl)),List.idxOf_append,if_neg h]
 simp
theorem nB {ks:List Flt}{k k':Flt} (h:k'≠k):ixO (ks++[k]) k'=ixO ks k':=by
 unfold ixO
 by_cases m:k'∈ks
 ·rw[if_pos (aO.2 (.inl m)),if_pos m,List.idxOf_append,if_pos m]
 ·rw[if_neg (fun q=>(aO.1 q).elim m h),if_neg m]
theorem lM {ks:List Flt}{k:Flt} (h:k∈ks):ixO ks k=some (ks.idxOf k):=if_pos h
theorem sq {ks:List Flt}{k:Flt} (h:k ∉ ks):ixO ks k=none:=if_neg h
theorem iw {c:Circ}{p:List Flt}{x f:Flt} (hf:f∈p++[x]):clsOf c (p++[x]) f=if dq c f∈ksF c p then (ksF c p).idxOf (dq c f) else (ksF c p).length:=by
 unfold clsOf
 rw[eT]
 unfold jk
 by_cases h:dq c f∈ksF c p
 ·rw[if_pos h]
  split
  ·rfl
  ·rw[List.idxOf_append,if_pos h]
 ·rw[if_neg h]
  have e:dq c f=dq c x:=by
   rcases aO.1 hf with m|rfl
   ·exact absurd (fu.2 ⟨f,m,rfl⟩) h
   ·rfl
  rw[e] at h ⊢
  rw[if_neg h,List.idxOf_append,if_neg h]
  simp
theorem xH (c:Circ) (p:List Flt) (x:Flt):osN c (p++[x])=osN c p++[clsOf c (p++[x]) x]:=by
 unfold osN
 rw[List.map_append]
 congr 1
 refine List.map_congr_left fun f hf=>?_
 rw[iw (List.mem_append_left _ hf),if_pos (fu.2 ⟨f,hf,rfl⟩)]
 rfl
theorem zS {c:Circ}{p:List Flt}{x:Flt} (h:dq c x∈ksF c p):RN c (p++[x])=(RN c p).set ((ksF c p).idxOf (dq c x)) (iD c p (dq c x)++[p.length]):=by
 unfold RN
 rw[eT]
 unfold jk
 rw[if_pos h]
 apply List.ext_getElem?
 intro j
 rw[List.getElem?_map,List.getElem?_set,List.length_map]
 by_cases e:(ksF c p).idxOf (dq c x)=j
 ·subst e
  rw[if_pos rfl,if_pos (List.idxOf_lt_length_iff.2 h),qL h]
  simp only[Option.map_some]
  rw[jV,if_pos rfl]
 ·rw[if_neg e,List.getElem?_map]
  cases hj:(ksF c p)[j]? with
  |none=>rfl
  |some k =>
   simp only[Option.map_some]
   rw[jV,if_neg,List.append_nil]
   rintro rfl
   exact e (xm (qo c p) hj)
theorem zB {c:Circ}{p:List Flt}{x:Flt} (h:dq c x ∉ ksF c p):RN c (p++[x])=RN c p++[[p.length]]:=by
 unfold RN
 rw[eT]
 unfold jk
 rw[if_neg h,List.map_append]
 congr 1
 ·refine List.map_congr_left fun k hk=>?_
  rw[jV,if_neg,List.append_nil]
  rintro rfl
  exact h hk
 ·rw[List.map_cons,List.map_nil,jV,if_pos rfl,vz h];rfl
def CsOk (c:Circ) (ks:List Flt) (ps:List Nat) (cs:List (Nat×Nat)):Prop:=∀ s,VS c s->∀ r,Rt ps (numN c s) r->bc cs r=ixO ks (fltS (clsN c s))
def AH (ks:List Flt) (ot:List (Flt×Nat)):Prop:=∀ f:Flt,f.model≠0->bc ot f=ixO ks f
theorem CsOk.same {c:Circ}{ks:List Flt}{ps qs:List Nat}{cs:List (Nat×Nat)} (F:Fo ps) (h:CsOk c ks ps cs) (g:SameR ps qs):CsOk c ks qs cs:=fun s hs r hr=>h s hs r (g.back F hr)
theorem so {c:Circ} (C:Cir c) {ps:List Nat} (U:EdgeI c (edgesN c) ps) {a b:Si} (ha:VS c a) (hb:VS c b) {r s:Nat} (h1:Rt ps (numN c a) r) (h2:Rt ps (numN c b) s):r=s↔clsN c a=clsN c b :=
 (U.cn a b r s ha hb h1 h2).trans (zJ C)
theorem CsOk.new {c:Circ} (C:Cir c) {ks:List Flt}{ps:List Nat}{cs:List (Nat×Nat)} (U:EdgeI c (edgesN c) ps) (h:CsOk c ks ps cs) {a:Si} (ha:VS c a) {r:Nat} (hr:Rt ps (numN c a) r) (hn:fltS (clsN c a) ∉ ks) :
  CsOk c (ks++[fltS (clsN c a)]) ps (eB cs r ks.length):=by
 intro s hs r' hr'
 rw[lD]
 by_cases e:r'=r
 ·rw[if_pos e,(so C U hs ha hr' hr).1 e,uO hn]
 ·rw[if_neg e,nB,h s hs r' hr']
  intro q
  exact e ((so C U hs ha hr' hr).2 (yG q))
structure PartO (c:Circ) (l:List Flt) (ps:List Nat) (cs:List (Nat×Nat)):Prop where
 edge:EdgeI c (edgesN c) ps
 cs:CsOk c (ksF c l) ps cs
theorem fF {c:Circ} (C:Cir c) {l:List Flt} (hl:l.length<=65536) (hs:∀ f∈l,f.model=0->StuckOk c f) {K:List Nat×List Nat×Nat×List (List Nat)×List Nat×List (Nat×Nat)->Prop}
  (h:∀ ps cs,PartO c l ps cs->K (fsN c,ps,npN c,RN c l,osN c l,cs)):aN c l K:=by
 unfold aN
 refine vW C fun ps0 U0=>?_
 refine aR (fun (s:AL)=>s.2.2.2.2.2<=l.length/\EdgeI c (edgesN c) s.1/\s.2.1=RN c (l.take s.2.2.2.2.2)/\s.2.2.1=osN c (l.take s.2.2.2.2.2)/\CsOk c (ksF c (l.take s.2.2.2.2.2)) s.1 s.2.2.2.1/\AH (ksF c (l.take s.2.2.2.2.2)) s.2.2.2.2.1)
  (fun s=>l.length-s.2.2.2.2.2) (fun s=>∃ ps cs,PartO c l ps cs/\s=(ps,RN c l,osN c l,cs)) ?_ ⟨Nat.zero_le _,U0,rfl,rfl,(fun s _ r _=>rfl),fun f _=>rfl⟩ ?_
 ·rintro k ⟨ps,R,os,cs,ot,i⟩ nx ⟨hi,U,hR,hos,hcs,hot⟩ hnx hk
  dsimp only at hi U hR hos hcs hot
  refine⟨fun q=>?_,fun q=>hk _ ?_⟩
  ·have q:i<l.length:=bG.1 q
   obtain⟨f,hf⟩:=aX q
   have hp1:(l.take i).length=i:=by rw[List.length_take];omega
   have htk:l.take (i+1)=l.take i++[f]:=lC hf
   have hks:(ksF c (l.take i)).length=R.length:=by rw[hR,mg]
   have hRl:R.length<=i:=by rw[<- hks];exact Nat.le_trans (nE _ _) (Nat.le_of_eq hp1)
   refine⟨f,hf,?_⟩
   refine eZ (fun s=>EdgeI c (edgesN c) s.1/\CsOk c (ksF c (l.take (i+1))) s.1 s.2.1/\AH (ksF c (l.take (i+1))) s.2.2.1/\s.2.2.2.2=decide (dq c f∈ksF c (l.take i))/\(dq c f∈ksF c (l.take i)->s.2.2.2.1=(ksF c (l.take i)).idxOf (dq c f))) ?_ ?_
   ·intro k2 hk2
    have old:dq c f∈ksF c (l.take i)->ksF c (l.take (i+1))=ksF c (l.take i):=fun m=>by
     rw[htk,eT];exact if_pos m
    have new:dq c f ∉ ksF c (l.take i)->ksF c (l.take (i+1))=ksF c (l.take i)++[dq c f]:=fun m=>by
     rw[htk,eT];exact if_neg m
    refine⟨fun qm=>?_,fun qm=>?_⟩
    ·have qm:f.model=0:=fP.1 qm
     obtain⟨s,hv,rfl⟩:=Ac (hs f (List.mem_of_getElem? hf) qm)
     obtain⟨r,hr⟩:=U.fo (numN c s) (U.len ▸ iv hv)
     rw[oe] at old new hk2
     refine oM C hv (s:=s) (by unfold fltS;simp only[Int.ofNat_eq_natCast];omega) (lJ U.len hr fun qs hq=>?_)
     dsimp only
     have Uq:=U.same hq
     have hcq:=hcs.same U.fo hq
     have hget:=hcs s hv r hr
     have hrq:=hq.rt _ _ hr
     by_cases m:fltS (clsN c s)∈ksF c (l.take i)
     ·rw[hget,lM m]
      refine⟨(fun e=>by cases e),fun _=>hk2 _ ⟨Uq,by rw[old m];exact hcq,by rw[old m];exact hot,(decide_eq_true m).symm,fun _=>rfl⟩⟩
     ·rw[hget,sq m]
      refine⟨fun _=>hk2 _ ⟨Uq,?_,?_,(decide_eq_false m).symm,fun q=>absurd q m⟩,(fun e=>by cases e)⟩
      ·rw[new m,<- hks]
       exact hcq.new C Uq hv hrq m
      ·rw[new m]
       intro f' hf'
       rw[nB]
       ·exact hot f' hf'
       ·rintro rfl
        exact hf' rfl
    ·have qm:f.model≠0:=iF.1 qm
     rw[tE qm] at old new hk2
     have hget:=hot f qm
     by_cases m:f∈ksF c (l.take i)
     ·rw[hget,lM m]
      refine⟨(fun e=>by cases e),fun _=>hk2 _ ⟨U,by rw[old m];exact hcs,by rw[old m];exact hot,(decide_eq_true m).symm,fun _=>rfl⟩⟩
     ·rw[hget,sq m]
      refine⟨fun _=>hk2 _ ⟨U,?_,?_,(decide_eq_false m).symm,fun q=>absurd q m⟩,(fun e=>by cases e)⟩
      ·rw[new m]
       intro s hs r hr
       rw[nB]
       ·exact hcs s hs r hr
       ·intro e
        exact qm (by rw[<- e];rfl)
      ·rw[new m,<- hks]
       intro f' hf'
       rw[lD]
       by_cases e:f'=f
       ·rw[if_pos e,e,uO m]
       ·rw[if_neg e,nB e]
        exact hot f' hf'
   ·rintro⟨ps2,cs2,ot2,at2,is2⟩ ⟨U2,hcs2,hot2,his,hat⟩
    dsimp only at U2 hcs2 hot2 his hat
    subst his
    refine eZ (fun s=>s.2=clsOf c (l.take (i+1)) f/\s.1=if dq c f∈ksF c (l.take i) then R else R++[[]]) ?_ ?_
    ·intro k3 hk3
     by_cases m:dq c f∈ksF c (l.take i)
     ·rw[decide_eq_true m]
      refine⟨(fun e=>by cases e),fun _=>hk3 _ ⟨?_,(if_pos m).symm⟩⟩
      rw[htk,iw (aO.2 (.inr rfl)),if_pos m]
      exact hat m
     ·rw[decide_eq_false m]
      refine⟨fun _=>⟨by omega,hk3 _ ⟨?_,(if_neg m).symm⟩⟩,(fun e=>by cases e)⟩
      rw[htk,iw (aO.2 (.inr rfl)),if_neg m]
      exact hks.symm
    ·rintro⟨R3,at3⟩ ⟨rfl,hR3⟩
     dsimp only at hR3
     have hosl:os.length=i:=by rw[hos];unfold osN;rw[List.length_map,hp1]
     have key:∃ r,R3[clsOf c (l.take (i+1)) f]?=some r/\r.length<=i/\R3.set (clsOf c (l.take (i+1)) f) (r++[i])=RN c (l.take (i+1)):=by
      rw[htk,iw (aO.2 (.inr rfl))]
      by_cases m:dq c f∈ksF c (l.take i)
      ·rw[if_pos m] at hR3 ⊢
       subst hR3
       refine⟨iD c (l.take i) (dq c f),?_,Nat.le_trans (sJ _ _ _) (Nat.le_of_eq hp1),?_⟩
       ·rw[hR];unfold RN
        rw[List.getElem?_map,qL m];rfl
       ·rw[zS m,hp1,hR]
      ·rw[if_neg m] at hR3 ⊢
       rw[hks]
       subst hR3
       refine⟨[],by simp,Nat.zero_le _,?_⟩
       rw[zB m,hp1,<- hR]
       simp
     obtain⟨r,hr1,hr2,hr3⟩:=key
     refine⟨r,hr1,by omega,by omega,by omega,hnx _ ⟨q,U2,hr3,?_,hcs2,hot2⟩ (by dsimp only;omega)⟩
     dsimp only
     rw[htk,xH,<- hos]
  ·have q:l.length<=i:=bP.1 q
   obtain rfl:i=l.length:=by omega
   rw[List.take_length] at hR hos hcs
   exact⟨ps,cs,⟨U,hcs⟩,by rw[hR,hos]⟩
 ·rintro _ ⟨ps,cs,hP,rfl⟩
  refine⟨fun r hr=>?_,?_,h ps cs hP⟩
  ·obtain⟨k,hk,rfl⟩:=List.mem_map.1 hr
   obtain⟨f,hf,e⟩:=fu.1 hk
   obtain⟨j,hj⟩:=List.mem_iff_getElem?.1 hf
   intro q
   have:j∈iD c l k:=lA.2 ⟨f,hj,e⟩
   rw[q] at this
   cases this
  ·rw[mg]
   have:=nE c l
   omega
theorem jL {c:Circ} (C:Cir c) {l:List Flt} (hl:l.length<=65536) (hs:∀ f∈l,∀ K:Nat->Prop,K 0->faults_Check_wp c f K) {K:Nat->Prop} (h:K 0):bb c l K:=by
 unfold bb
 refine⟨fun q=>?_,fun _=>sW C ⟨(fun q=>absurd rfl (eD.1 q)),fun _=>?_⟩⟩
 ·have:=bG.1 q;omega
 ·refine dM (l:=l) ?_ ?_ h
  ·intro k i nx x hx hi hn
   refine⟨fun _=>⟨x,hx,hs x (List.mem_of_getElem? hx) _ ⟨(fun q=>absurd rfl (eD.1 q)),fun _=>⟨by omega,hn⟩⟩⟩,fun q=>?_⟩
   have:=bP.1 q;omega
  ·intro k i nx hi hk
   refine⟨fun q=>?_,fun _=>hk⟩
   have:=bG.1 q;omega
end Go.Proofs.YtobphhjcadjfjaaDoor
