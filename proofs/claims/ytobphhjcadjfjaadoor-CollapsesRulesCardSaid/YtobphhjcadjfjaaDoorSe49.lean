/-
  P6, P7, Carg, Carg7, Case, W3, W4, Uf, U1, P8, U2, U3, U4, Gat, Co1, Co2: parts of the proof.
-/
import Derived.Test.YtobphhjcadjfjaaDoorSe48
namespace Go.Proofs.YtobphhjcadjfjaaDoor
open Go.Abs
set_option maxRecDepth 100000
def cI (c:Circ) (i x:Nat):List Ln:=(c.nodes.zipIdx.take i).flatMap fun p=>aR x p.2 p.1.ins
theorem lW (x i:Nat) (l:List Nat) (a:Nat):aR x i (l++[a])=aR x i l++(if a=x then [⟨i,l.length⟩] else []):=by
 unfold aR
 rw[List.zipIdx_append,List.filter_append,List.map_append]
 congr 1
 by_cases c:a=x
 ·simp[c]
 ·simp[c]
theorem jV {c:Circ}{i x:Nat}{y:Node} (hy:c.nodes[i]?=some y):cI c (i+1) x=cI c i x++aR x i y.ins:=by
 have h:c.nodes.zipIdx[i]?=some (y,i):=by rw[List.getElem?_zipIdx,hy];simp
 unfold cI
 obtain⟨h1,h2⟩:=List.getElem?_eq_some_iff.1 h
 rw[List.take_succ_eq_append_getElem h1,h2,List.flatMap_append]
 simp
theorem jD (x i:Nat) (l:List Nat):(aR x i l).length<=l.length:=by
 unfold aR
 rw[List.length_map]
 refine Nat.le_trans (List.length_filter_le _ _) ?_
 simp
structure FanPre (c:Circ):Prop where
 len:c.nodes.length<=16
 ins:∀ (i:Nat) (x:Node),c.nodes[i]?=some x->(∀ k∈x.ins,k<c.nodes.length)/\x.ins.length<=16
theorem kS {c:Circ} (g:FanPre c) (x:Nat):∀ i,i<=c.nodes.length->(cI c i x).length<=i*16
 |0,_=>by simp[cI]
 |i+1,h=>by
  obtain⟨y,hy⟩:=aP (l:=c.nodes) (i:=i) h
  rw[jV hy,List.length_append]
  have:=kS g x i (by omega)
  have:=jD x i y.ins
  have:=(g.ins i y hy).2
  omega
def dB (c:Circ) (i t:Nat) (ins:List Nat):List (List Ln):=(List.range c.nodes.length).map fun x=>cI c i x++aR x i (ins.take t)
theorem lf {c:Circ}{i t x:Nat}{ins:List Nat} (hx:x<c.nodes.length):(dB c i t ins)[x]?=some (cI c i x++aR x i (ins.take t)):=by
 unfold dB
 rw[List.getElem?_map,List.getElem?_range hx]
 rfl
theorem sw {c:Circ}{i t y:Nat}{ins:List Nat} (hy:ins[t]?=some y):(dB c i t ins).set y (cI c i y++aR y i (ins.take t)++[⟨i,t⟩])=dB c i (t+1) ins:=by
 have ht:=ag hy
 obtain⟨h1,h2⟩:=List.getElem?_eq_some_iff.1 hy
 have hs:∀ x,aR x i (ins.take (t+1))=aR x i (ins.take t)++(if y=x then [⟨i,t⟩] else []):=fun x=>by
  rw[List.take_succ_eq_append_getElem h1,h2,lW,List.length_take,Nat.min_eq_left (Nat.le_of_lt ht)]
 apply List.ext_getElem?
 intro x
 rw[List.getElem?_set]
 have hl:(dB c i t ins).length=c.nodes.length:=by unfold dB;simp
 by_cases c1:x<c.nodes.length
 ·rw[lf c1,lf c1,hs x]
  by_cases e:y=x
  ·subst e
   rw[if_pos rfl,if_pos (by omega),if_pos rfl,List.append_assoc]
  ·rw[if_neg e,if_neg e,List.append_nil]
 ·have hn:∀ k,(dB c i k ins)[x]?=none:=fun k=>by
   refine List.getElem?_eq_none ?_
   unfold dB;simp;omega
  rw[hn,hn]
  by_cases e:y=x
  ·rw[if_pos e,if_neg (by omega)]
  ·rw[if_neg e]
theorem qa {c:Circ}{K:List (List Ln)->Prop} (g:FanPre c) (h:K (kA c)):eX c K:=by
 have hlen:=g.len
 unfold eX
 refine⟨by omega,by omega,?_⟩
 refine aO (fun s=>s.2<=c.nodes.length/\s.1=dB c s.2 0 []) (fun s=>c.nodes.length-s.2) (fun a=>a=kA c) ?_ ?_ ?_
 ·rintro k ⟨R,i⟩ nx ⟨hi,hR⟩ hnx hk
  dsimp only at hi hR
  subst hR
  refine⟨fun q=>?_,fun q=>?_⟩
  ·have q:=bp.1 q
   try dsimp only at q
   obtain⟨y,hy⟩:=aP q
   obtain⟨g1,g2⟩:=g.ins i y hy
   refine iZ ⟨y,hy,?_⟩
   refine aT (fun s=>s.2<=y.ins.length/\s.1=dB c i s.2 y.ins) (fun s=>y.ins.length-s.2) ?_ ⟨Nat.zero_le _,by unfold dB;simp⟩
   rintro⟨R1,t⟩ nx1 ⟨ht,hR⟩ hnx1
   dsimp only at ht hR
   subst hR
   refine⟨fun q1=>?_,fun q1=>?_⟩
   ·have q1:=bp.1 q1
    try dsimp only at q1
    obtain⟨z,hz⟩:=aP q1
    have hzn:=g1 z (List.mem_of_getElem? hz)
    have hb:=kS g z i hi
    have hb2:=jD z i (y.ins.take t)
    have hb3:(y.ins.take t).length<=16:=by rw[List.length_take];omega
    refine iZ ⟨z,hz,fun e=>absurd (bp.1 e) (Nat.not_lt_zero _),fun _=>⟨fun _=>?_,fun e=>?_⟩⟩
    ·refine⟨hzn,_,lf hzn,by simp only[List.length_append,List.length_singleton];omega,hzn,by omega,?_⟩
     rw[sw hz]
     exact hnx1 (dB c i (t+1) y.ins,t+1) ⟨q1,rfl⟩ (by dsimp only;omega)
    ·have e2:ltN z c.nodes.length=true:=bp.2 hzn
     rw[e2] at e
     cases e
   ·have q1:=bO.1 q1
    try dsimp only at q1
    refine⟨by omega,hnx (dB c i t y.ins,i+1) ⟨q,?_⟩ (by dsimp only;omega)⟩
    unfold dB
    refine List.map_congr_left fun x _=>?_
    rw[List.take_of_length_le q1,jV hy]
    simp[aR]
  ·have q:=bO.1 q
   try dsimp only at q
   have:i=c.nodes.length:=by omega
   subst this
   refine hk _ ?_
   unfold dB kA
   refine List.map_congr_left fun x _=>?_
   unfold cI
   rw[List.take_of_length_le (by simp)]
   simp[aR]
 ·refine⟨Nat.zero_le _,?_⟩
  unfold dB
  apply List.ext_getElem?
  intro x
  rw[List.getElem?_replicate,List.getElem?_map]
  by_cases q:x<c.nodes.length
  ·rw[if_pos q,List.getElem?_range q]
   simp[cI,aR]
  ·rw[if_neg q,List.getElem?_eq_none (by simp;omega)]
   rfl
 ·rintro a rfl
  have hl:(kA c).length=c.nodes.length:=by unfold kA;simp
  refine aO (fun s=>s.2<=c.nodes.length/\s.1=kA c) (fun s=>c.nodes.length-s.2) (fun a=>a=kA c) ?_ ⟨Nat.zero_le _,rfl⟩ ?_
  ·rintro k ⟨R,i⟩ nx ⟨hi,hR⟩ hnx hk
   dsimp only at hi hR
   subst hR
   refine⟨fun q=>?_,fun _=>hk _ rfl⟩
   have q:=bp.1 q
   try dsimp only at q
   obtain⟨y,hy⟩:=aP (l:=kA c) (i:=i) (by omega)
   refine⟨q,y,hy,q,by omega,hnx _ ⟨q,?_⟩ (by dsimp only;omega)⟩
   obtain⟨h1,rfl⟩:=List.getElem?_eq_some_iff.1 hy
   exact List.set_getElem_self h1
  ·rintro a rfl
   exact⟨hl.symm,h⟩
theorem xT {c:Circ} (g:FanPre c):FanOk c:=by
 refine FnV.nU (enc:=au 1 (au 2 bL)) (gE fun r=>ah.cons (gE fun l=>sP l) ah.nil) fun h hB=>?_
 exact nJ (K:=fun r=>r=kA c) (qa g rfl) hB
theorem uj:([0,1,2,3,4,5,6,7,8,9,10,11,12,13,14,15].all fun i=>isTrue (nD Tryd.prog [] (mD Tryd.prog) 60 89 #[.string (gZ i)] (dG vars)))=true:=by kernel_rfl
theorem Bg {i:Nat} (hi:i<16):yX (gZ i):=by
 have hm:i∈[0,1,2,3,4,5,6,7,8,9,10,11,12,13,14,15]:=by
  have:i=0\/i=1\/i=2\/i=3\/i=4\/i=5\/i=6\/i=7\/i=8\/i=9\/i=10\/i=11\/i=12\/i=13\/i=14\/i=15:=by omega
  simpa using this
 obtain⟨h',e⟩:=oa (List.all_eq_true.1 uj i hm)
 have c:=(gI hM hP (fun f vs h v e=>iF f vs h v e) 60 _ _ _ _ _ e).1
 exact⟨PureV.oe rfl,fun h b=>c.lift (by kernel_rfl) rfl (kU (uV b) (nL b))⟩
theorem vO:∀ i,i<16->∀ j,j<16->gZ i=gZ j->i=j:=by decide +kernel
theorem vx {l:List ByteArray}{x:ByteArray} (h:x ∉ l):ba (l.map fun s=>(s,true)) x=none:=by
 induction l with
 |nil=>rfl
 |cons a l ih =>
  simp only[List.mem_cons,not_or] at h
  rw[List.map_cons,ba,if_neg h.1]
  exact ih h.2
theorem xc {l:List ByteArray}{x:ByteArray} (h:x ∉ l):fM (l.map fun s=>(s,true)) x true=(l++[x]).map fun s=>(s,true):=by
 induction l with
 |nil=>rfl
 |cons a l ih =>
  simp only[List.mem_cons,not_or] at h
  rw[List.map_cons,fM,if_neg h.1,ih h.2]
  rfl
theorem lU {c:Circ}{K:Nat->Prop} (h1:∀ s∈c.names,yX s) (h2:c.names.Nodup) (h3:c.names.length<2 ^ 60) (h:K 0):fC c K:=by
 unfold fC
 refine aO (fun s=>s.2<=c.names.length/\s.1=(c.names.take s.2).map fun s=>(s,true)) (fun s=>c.names.length-s.2) (fun _=>True) ?_ ⟨Nat.zero_le _,by simp⟩ (fun _ _=>h)
 rintro k ⟨m,i⟩ nx ⟨hi,hR⟩ hnx hk
 dsimp only at hi hR
 subst hR
 refine⟨fun q=>?_,fun _=>hk () trivial⟩
 have q:=bp.1 q
 try dsimp only at q
 obtain⟨x,hx⟩:=aP q
 obtain⟨l1,l2⟩:=List.getElem?_eq_some_iff.1 hx
 have hnot:x ∉ c.names.take i:=fun mm=>by
  obtain⟨j,hj,e⟩:=List.getElem_of_mem mm
  rw[List.length_take] at hj
  rw[List.getElem_take] at e
  exact List.pairwise_iff_getElem.1 h2 j i (by omega) l1 (by omega) (e.trans l2.symm)
 refine⟨x,hx,iZ ⟨h1 x (List.mem_of_getElem? hx),(fun e=>by cases e),fun _=>?_⟩⟩
 rw[vx hnot]
 refine⟨(fun e=>by cases e),fun _=>⟨by omega,hnx _ ⟨q,?_⟩ (by dsimp only;omega)⟩⟩
 dsimp only
 rw[xc hnot,List.take_succ_eq_append_getElem l1,l2]
theorem ya {c:Circ}{n:Nat} (hn:n<=16) (hc:c.names=(List.range n).map gZ):NamesOk c:=by
 refine FnV.nU (enc:=i64) (PureV.flat rfl) fun h hB=>?_
 refine jP (K:=fun r=>r=0) (lU ?_ ?_ ?_ rfl) hB
 ·intro s m
  rw[hc] at m
  obtain⟨i,hi,rfl⟩:=List.mem_map.1 m
  exact Bg (by have:=List.mem_range.1 hi;omega)
 ·rw[hc]
  unfold List.Nodup
  rw[List.pairwise_map]
  refine List.Pairwise.imp_of_mem ?_ (List.nodup_range (n:=n))
  intro a b ha hb hne e
  exact hne (vO a (by have:=List.mem_range.1 ha;omega) b (by have:=List.mem_range.1 hb;omega) e)
 ·rw[hc];simp;omega
theorem fj {first:Nat}{d:Nat->Nat}{ns:List Node}:∀ i,(kG first d i ns).length=ns.length
 |0=>rfl
 |i+1=>by rw[kG,List.length_set,fj i]
theorem lS {first:Nat}{d:Nat->Nat}{ns:List Node}{j:Nat}:∀ {i},first+i<=j->(kG first d i ns)[j]?=ns[j]?
 |0,_=>rfl
 |i+1,h=>by
  rw[kG,List.getElem?_set_ne (by omega)]
  exact lS (by omega)
theorem mN (x:CData):0<(cb x).length:=by
 rw[ff];omega
theorem AQ {α:Type}{a:α}{first:(α->Prop)->Prop}{rest:α->Prop} (h1:rest a->first rest) (h2:rest a):al first rest:=h1 h2
structure CB (x:CData):Prop where
 inp:x.inp<256
 dffs:x.dffs<256
 data0:x.data0<256
 data1:x.data1<256
 port0:x.port0<256
 port1:x.port1<256
 port2:x.port2<256
 port3:x.port3<256
 gates:∀ g∈x.gates,GOk g
 outs:∀ o∈x.outs,o<256
theorem oK {n:Nat} (hn:n<=16) {rest:List ByteArray->Prop} (h:rest ((List.range n).map gZ)) :
  al (α:=(List ByteArray)) (fun k=>aI (S:=((List ByteArray)×Nat)) (fun (v,i) nx=>((ltN i n)=true->eU i (fun r=>(v.length+([r]:(List ByteArray)).length)*16<=2 ^ 47/\i+1<2 ^ 63/\nx ((v++([r]:(List ByteArray))),(i+1))))/\((ltN i n)=false->k v)) (([]:List ByteArray),0)) rest:=by
 refine aO (fun s=>s.2<=n/\s.1=(List.range s.2).map gZ) (fun s=>n-s.2) (fun a=>a=(List.range n).map gZ) ?_ ⟨Nat.zero_le _,rfl⟩ (fun a e=>by rw[e];exact h)
 rintro k ⟨l,i⟩ nx ⟨hi,hl⟩ hnx hk
 dsimp only at hi hl
 subst hl
 refine⟨fun q=>?_,fun q=>?_⟩
 ·have q:=bp.1 q
  try dsimp only at q
  refine⟨by omega,by simp only[List.length_map,List.length_range,List.length_singleton];omega,by omega,hnx _ ⟨by dsimp only;omega,?_⟩ (by dsimp only;omega)⟩
  dsimp only
  rw[List.range_succ,List.map_append];rfl
 ·have q:=bO.1 q
  try dsimp only at q
  have:i=n:=by omega
  subst this
  exact hk _ rfl
theorem qd {n:Nat} (hpos:0<n) {outs:List Nat} (ho:∀ o∈outs,o<256) {rest:List Nat->Prop} (h:rest ((outs.take 3).map (· % n))) :
  al (α:=(List Nat)) (fun k=>aI (S:=((List Nat)×Nat)) (fun (v,i) nx=>al (α:=Bool) (fun k2=>((ltN i outs.length)=true->k2 (ltN i 3))/\((ltN i outs.length)=false->k2 false)) (fun w=>(w=true->∃ x,outs[i]?=some x/\x<256/\0<n/\(v.length+([(x%n)]:(List Nat)).length)*8<=2 ^ 47/\i+1<2 ^ 63/\nx ((v++([(x%n)]:(List Nat))),(i+1)))/\(w=false->k v))) (([]:List Nat),0)) rest:=by
 refine aO (fun s=>s.2<=min outs.length 3/\s.1=(outs.take s.2).map (· % n)) (fun s=>min outs.length 3-s.2) (fun a=>a=(outs.take 3).map (· % n)) ?_ ⟨Nat.zero_le _,by simp⟩ (fun a e=>by rw[e];exact h)
 rintro k ⟨l,i⟩ nx ⟨hi,hl⟩ hnx hk
 dsimp only at hi hl
 subst hl
 have hi3:i<=3:=Nat.le_trans hi (Nat.min_le_right _ _)
 have hil:i<=outs.length:=Nat.le_trans hi (Nat.min_le_left _ _)
 have hlen:((outs.take i).map (· % n)).length=i:=by rw[List.length_map,List.length_take];omega
 have stop:¬ (i<outs.length/\i<3)->k ((outs.take i).map (· % n)):=fun q=>by
  refine hk _ ?_
  by_cases c:i=3
  ·rw[c]
  ·rw[List.take_of_length_le (by omega),List.take_of_length_le (by omega)]
 refine iZ ⟨fun q=>⟨fun q2=>?_,fun q2=>stop fun e=>absurd e.2 (by have:=bO.1 q2;omega)⟩,fun q=>⟨(fun e=>by cases e),fun _=>stop fun e=>absurd e.1 (by have:=bO.1 q;(try dsimp only at this);omega)⟩⟩
 have q:=bp.1 q
 have q2:=bp.1 q2
 try dsimp only at q q2
 obtain⟨o,hoo⟩:=aP q
 obtain⟨l1,l2⟩:=List.getElem?_eq_some_iff.1 hoo
 refine⟨o,hoo,ho _ (List.mem_of_getElem? hoo),hpos,by rw[hlen];simp only[List.length_singleton];omega,by omega,hnx _ ⟨by dsimp only;omega,?_⟩ (by dsimp only;omega)⟩
 dsimp only
 rw[List.take_succ_eq_append_getElem l1,l2,List.map_append];rfl
theorem tU {x:CData}{K:Circ->Prop} (hx:CB x) (h:K (eE x)):fm x K:=by
 have h4:=Nat.mod_lt x.inp (show 0<4 by decide)
 have h3:=Nat.mod_lt x.dffs (show 0<3 by decide)
 have hpos:=mN x
 have hle:=vn x
 have hbase:(ee x.inp x.dffs x.mem).length<=8:=by rw[dZ];split <;> omega
 have hbase1:0<(ee x.inp x.dffs x.mem).length:=by rw[dZ];omega
 unfold fm
 refine aO (fun s=>s.2<=x.inp%4+1/\s.1=List.replicate s.2 eM) (fun s=>x.inp%4+1-s.2) (fun a=>a=List.replicate (x.inp%4+1) eM) ?_ ⟨Nat.zero_le _,rfl⟩ ?_
 ·rintro k ⟨l,i⟩ nx ⟨hi,hl⟩ hnx hk
  dsimp only at hi hl
  subst hl
  refine⟨by decide,by omega,fun q=>?_,fun q=>?_⟩
  ·have q:=my.1 q
   try dsimp only at q
   refine⟨by simp only[List.length_replicate,List.length_singleton];omega,by omega,hnx _ ⟨by dsimp only;omega,?_⟩ (by dsimp only;omega)⟩
   dsimp only
   rw[List.replicate_succ'];rfl
  ·have q:=mr.1 q
   try dsimp only at q
   have:i=x.inp%4+1:=by omega
   subst this
   exact hk _ rfl
 rintro a rfl
 refine⟨by decide,by omega,?_⟩
 refine aO (fun s=>s.2<=x.dffs%3/\s.1=List.replicate (x.inp%4+1) eM++List.replicate s.2 (lN 0)) (fun s=>x.dffs%3-s.2) (fun a=>a=List.replicate (x.inp%4+1) eM++List.replicate (x.dffs%3) (lN 0)) ?_ ⟨Nat.zero_le _,by simp⟩ ?_
 ·rintro k ⟨l,i⟩ nx ⟨hi,hl⟩ hnx hk
  dsimp only at hi hl
  subst hl
  refine⟨fun q=>?_,fun q=>?_⟩
  ·have q:=bp.1 q
   try dsimp only at q
   refine⟨by simp only[List.length_append,List.length_replicate,List.length_singleton];omega,by omega,hnx _ ⟨by dsimp only;omega,?_⟩ (by dsimp only;omega)⟩
   dsimp only
   rw[List.replicate_succ' (n:=i),<- List.append_assoc];rfl
  ·have q:=bO.1 q
   try dsimp only at q
   have:i=x.dffs%3:=by omega
   subst this
   exact hk _ rfl
 rintro a rfl
 refine AQ (a:=ee x.inp x.dffs x.mem) (fun F=>⟨fun q=>?_,fun q=>?_⟩) ?_
 ·refine⟨by simp only[List.length_append,List.length_replicate,List.length_cons,List.length_nil];omega,?_⟩
  rw[show ee x.inp x.dffs x.mem=List.replicate (x.inp%4+1) eM++List.replicate (x.dffs%3) (lN 0)++[vA 0,vA 1] by unfold ee;rw[q];rfl] at F
  exact F
 ·rw[show ee x.inp x.dffs x.mem=List.replicate (x.inp%4+1) eM++List.replicate (x.dffs%3) (lN 0) by unfold ee;rw[q];simp] at F
  exact F
 refine aO (fun s=>s.2<=min x.gates.length 8/\s.1=dc x.bus x.gates (ee x.inp x.dffs x.mem) s.2) (fun s=>min x.gates.length 8-s.2) (fun a=>a=cb x) ?_ ⟨Nat.zero_le _,rfl⟩ ?_
 ·rintro k ⟨l,i⟩ nx ⟨hi,hl⟩ hnx hk
  dsimp only at hi hl
  subst hl
  have hgl:i<=x.gates.length:=Nat.le_trans hi (Nat.min_le_left _ _)
  have hN:=dL x.bus x.gates (ee x.inp x.dffs x.mem) i hgl
  have hi8:i<=8:=Nat.le_trans hi (Nat.min_le_right _ _)
  have stop:¬ (i<x.gates.length/\i<8)->k (dc x.bus x.gates (ee x.inp x.dffs x.mem) i):=fun q=>by
   have:i=min x.gates.length 8:=by omega
   exact hk _ (by rw[this];rfl)
  refine iZ ⟨fun q=>⟨fun q2=>?_,fun q2=>stop fun e=>absurd e.2 (by have:=bO.1 q2;omega)⟩,fun q=>⟨(fun e=>by cases e),fun _=>stop fun e=>absurd e.1 (by have:=bO.1 q;(try dsimp only at this);omega)⟩⟩
  have q:=bp.1 q
  have q2:=bp.1 q2
  try dsimp only at q q2
  obtain⟨gd,hg⟩:=aP q
  refine⟨gd,hg,hx.gates _ (List.mem_of_getElem? hg),by omega,by omega,by simp only[List.length_singleton];omega,by omega,hnx _ ⟨by dsimp only;omega,?_⟩ (by dsimp only;omega)⟩
  dsimp only
  rw[jQ hg]
 rintro a rfl
 have hfirst:(List.replicate (x.inp%4+1) eM).length=x.inp%4+1:=List.length_replicate
 refine aO (fun s=>s.2<=x.dffs%3/\s.1=kG (x.inp%4+1) (kL x (cb x).length) s.2 (cb x)) (fun s=>x.dffs%3-s.2) (fun a=>a=kG (x.inp%4+1) (kL x (cb x).length) (x.dffs%3) (cb x)) ?_ ⟨Nat.zero_le _,rfl⟩ ?_
 ·rintro k ⟨l,i⟩ nx ⟨hi,hl⟩ hnx hk
  dsimp only at hi hl
  subst hl
  refine⟨fun q=>?_,fun q=>?_⟩
  ·have q:=bp.1 q
   try dsimp only at q
   have hget:(kG (x.inp%4+1) (kL x (cb x).length) i (cb x))[(List.replicate (x.inp%4+1) eM).length+i]?=some (lN 0):=by
    rw[hfirst,lS (Nat.le_refl _)]
    exact sE q
   have step:∀ d,d=kL x (cb x).length i->nx ((kG (x.inp%4+1) (kL x (cb x).length) i (cb x)).set ((List.replicate (x.inp%4+1) eM).length+i) { lN 0 with ins:=[d] },i+1):=fun d e=>by
    refine hnx _ ⟨by dsimp only;omega,?_⟩ (by dsimp only;omega)
    dsimp only
    rw[hfirst,e]
    rfl
   refine⟨by omega,by omega,fun e=>⟨hx.data0,hpos,_,hget,by omega,step _ ?_⟩,fun e=>⟨hx.data1,hpos,_,hget,by omega,step _ ?_⟩⟩
   ·unfold kL;rw[if_pos e]
   ·unfold kL;rw[if_neg (by omega)]
  ·have q:=bO.1 q
   try dsimp only at q
   have:i=x.dffs%3:=by omega
   subst this
   exact hk _ rfl
 rintro a rfl
 have hol:((x.outs.take 3).map (· % (cb x).length)).length<=3:=by rw[List.length_map,List.length_take];omega
 unfold eE at h
 refine⟨fun q=>⟨hx.port0,hpos,hx.port1,hpos,hx.port2,hpos,hx.port3,hpos,oK hle (qd hpos hx.outs ⟨hpos,by omega,by simp only[List.length_singleton];omega,rfl,rfl,rfl,rfl,?_⟩)⟩,fun q=>oK hle (qd hpos hx.outs ⟨hpos,by omega,by simp only[List.length_singleton];omega,?_⟩)⟩
 ·rw[q] at h;exact h
 ·rw[q] at h;exact h
def shB:Sh:=.int .u8
def shG:Sh:=.pair shB (.pair (.pair shB (.pair shB (.pair shB .unit))) .unit)
def shC:Sh:=.pair shB (.pair shB (.pair (.pair shB (.pair shB .unit)) (.pair .bool (.pair .bool (.pair (.pair shB (.pair shB (.pair shB (.pair shB .unit)))) (.pair (.slice shG) (.pair (.slice shB) .unit)))))))
theorem dp {a:Int} (w:shB.wf a):∃ n:Nat,n<256/\a=Int.ofNat n:=by
 have h:=wY w
 exact⟨a.toNat,by omega,by simp;omega⟩
theorem rP {α β:Type}{f:α->Value}{g:β->Value}{p:β->Prop}:∀ (l:List α),(∀ x∈l,∃ y,p y/\f x=g y)->∃ m:List β,(∀ y∈m,p y)/\l.map f=m.map g/\m.length=l.length
 |[],_=>⟨[],(fun _ h=>by cases h),rfl,rfl⟩
 |x::l,h=>by
  obtain⟨y,h1,h2⟩:=h x (by simp)
  obtain⟨m,h3,h4,h5⟩:=rP l fun z hz=>h z (by simp[hz])
  refine⟨y::m,fun z hz=>?_,by simp[h2,h4],by simp[h5]⟩
  rcases List.mem_cons.1 hz with rfl|hz
  ·exact h1
  ·exact h3 z hz
theorem vE {l:List Int} (w:(Sh.slice shB).wf l):∃ m:List Nat,(∀ v∈m,v<256)/\(Sh.slice shB).bd l=[au 1 n8 m]:=by
 obtain⟨_,w2⟩:=w
 obtain⟨m,h1,h2,_⟩:=rP (f:=fun x=>elV shB.one (shB.bd x)) (g:=n8) (p:=(· < 256)) l fun x hx=>by
  obtain⟨n,q1,rfl⟩:=dp (w2 x hx)
  exact⟨n,q1,rfl⟩
 refine⟨m,h1,?_⟩
 ·show [FL 1 (l.map fun x=>elV shB.one (shB.bd x))]=_
  rw[h2];rfl
theorem wk {l:List shG.Den} (w:(Sh.slice shG).wf l):∃ m:List GData,(∀ v∈m,GOk v)/\(Sh.slice shG).bd l=[FL 4 (m.map uy)]:=by
 obtain⟨_,w2⟩:=w
 obtain⟨m,h1,h2,_⟩:=rP (f:=fun x=>elV shG.one (shG.bd x)) (g:=uy) (p:=GOk) l fun x hx=>by
  obtain⟨k,⟨a,b,d,u⟩,u2⟩:=x
  obtain⟨w1,⟨wa,wb,wd,_⟩,_⟩:=w2 _ hx
  obtain⟨k,q1,rfl⟩:=dp w1
  obtain⟨a,q2,rfl⟩:=dp wa
  obtain⟨b,q3,rfl⟩:=dp wb
  obtain⟨d,q4,rfl⟩:=dp wd
  exact⟨⟨k,a,b,d⟩,⟨q1,q2,q3,q4⟩,rfl⟩
 refine⟨m,h1,?_⟩
 ·show [FL 4 (l.map fun x=>elV shG.one (shG.bd x))]=_
  rw[h2]
theorem AF {x:shC.Den} (w:shC.wf x):∃ y:CData,CB y/\elV (!true) (shC.bd x)=bm y:=by
 obtain⟨i,f,⟨d0,d1,u1⟩,bu,me,⟨p0,p1,p2,p3,u2⟩,gs,os,u3⟩:=x
 obtain⟨wi,wf,⟨wd0,wd1,_⟩,_,_,⟨wp0,wp1,wp2,wp3,_⟩,wg,wo,_⟩:=w
 obtain⟨i,qi,rfl⟩:=dp wi
 obtain⟨f,qf,rfl⟩:=dp wf
 obtain⟨d0,qd0,rfl⟩:=dp wd0
 obtain⟨d1,qd1,rfl⟩:=dp wd1
 obtain⟨p0,qp0,rfl⟩:=dp wp0
 obtain⟨p1,qp1,rfl⟩:=dp wp1
 obtain⟨p2,qp2,rfl⟩:=dp wp2
 obtain⟨p3,qp3,rfl⟩:=dp wp3
 obtain⟨g,g1,g3⟩:=wk wg
 obtain⟨o,o1,o3⟩:=vE wo
 refine⟨⟨i,f,d0,d1,bu,me,p0,p1,p2,p3,g,o⟩,⟨qi,qf,qd0,qd1,qp0,qp1,qp2,qp3,g1,o1⟩,?_⟩
 show Value.agg ⟨[n8 i,n8 f,n8 d0,n8 d1,.bool bu,.bool me,n8 p0,n8 p1,n8 p2,n8 p3]++((Sh.slice shG).bd gs++((Sh.slice shB).bd os++[]))⟩=_
 rw[g3,o3]
 rfl
structure FB (z:FData):Prop where
 model:z.model<256
 node:z.node<256
 pin:z.pin<256
 other:z.other<256
structure PData where
 inp:List Nat
 state:List Nat
structure PB (z:PData):Prop where
 inp:∀ v∈z.inp,v<256
 state:∀ v∈z.state,v<256
structure CaseD where
 c:CData
 f:List FData
 p:List PData
structure CaseB (x:CaseD):Prop where
 c:CB x.c
 f:∀ z∈x.f,FB z
 p:∀ z∈x.p,PB z
set_option maxHeartbeats 8000000
def fy (p0:Circ) (p1:List Flt) (p2:List Nat) (K:List Nat×Nat->Prop):Prop:=bB p0 p1 (p2.map Int.ofNat) K
theorem jg {p0:Circ}{p1:List Flt}{p2:List Nat}{K:List Nat×Nat->Prop} (hm:fy p0 p1 p2 K) {h0:Heap} (hB:HasB vars h0):∃ r,K r/\CallD Tryd.prog NG 21 ⟨[aw p0,(au 5 aC) p1,(au 1 i64) p2]⟩ h0 ((fun (r:List Nat×Nat)=>Value.tuple ⟨[(aK 1 i64) (r.1),i64 (r.2)]⟩) r) h0:=by
 have e:au 1 z64 (p2.map Int.ofNat)=au 1 i64 p2:=by unfold au;rw[List.map_map];rfl
 rw[<- e]
 exact iW hm hB
def bZ  (K:(Circ×(List Flt))->Prop):Prop :=
 eV (⟨([(⟨0,([]:(List Nat)),0,0⟩:Node),(⟨0,([]:(List Nat)),0,0⟩:Node),(⟨5,([0,1]:(List Nat)),0,0⟩:Node)]:(List Node)),([(⟨#[97]⟩:ByteArray),(⟨#[98]⟩:ByteArray),(⟨#[121]⟩:ByteArray)]:(List ByteArray)),([]:(List Memo)),([2]:(List Nat))⟩:Circ) 0 (fun r5=>K ((⟨([(⟨0,([]:(List Nat)),0,0⟩:Node),(⟨0,([]:(List Nat)),0,0⟩:Node),(⟨5,([0,1]:(List Nat)),0,0⟩:Node)]:(List Node)),([(⟨#[97]⟩:ByteArray),(⟨#[98]⟩:ByteArray),(⟨#[121]⟩:ByteArray)]:(List ByteArray)),[],([2]:(List Nat))⟩:Circ),r5.1))
theorem gS  {K:(Circ×(List Flt))->Prop} (hm:bZ  K) {h0:Heap} (hB:HasB vars h0):∃ r,K r/\CallD Tryd.prog NG 19 ⟨[]⟩ h0 ((fun (r:(Circ×(List Flt)))=>Value.tuple ⟨[aw (r.1),(au 5 aC) (r.2)]⟩) r) h0:=by
 unfold bZ at hm
 refine fw Tryd.func19 hB (enc:=(fun (r:(Circ×(List Flt)))=>Value.tuple ⟨[aw (r.1),(au 5 aC) (r.2)]⟩)) (fun r=>PureV.tup (ah.cons (kq _) (ah.cons (gE (fun _=>kv _)) (ah.nil)))) fun O=>?_;conv=>whnf
 refine gX ?_
 refine O.new (ak (l:=[(.slice none 0 0),(.slice none 0 0),(.slice none 0 0),(.slice none 0 0)]) rfl rfl rfl) fun g1 h O=>?_;refine gH ?_
 refine gX ?_
 refine fz ?_;refine gH ?_
 refine NewG.frzW rfl (VLe.els (s:=4) (es':=([(⟨0,([]:(List Nat)),0,0⟩:Node),(⟨0,([]:(List Nat)),0,0⟩:Node),(⟨5,([0,1]:(List Nat)),0,0⟩:Node)]).map ai) rfl (bU (enc:=ai) (s:=4) (fun _=>rfl) _) (LLe.cons (VLe.refl _ _) (LLe.cons (VLe.nil _ _) (LLe.cons (VLe.refl _ _) (LLe.cons (VLe.refl _ _) (LLe.cons (VLe.refl _ _) (LLe.cons (VLe.nil _ _) (LLe.cons (VLe.refl _ _) (LLe.cons (VLe.refl _ _) (LLe.cons (VLe.refl _ _) (LLe.cons (VLe.refl _ _) (LLe.cons (VLe.refl _ _) (LLe.cons (VLe.refl _ _) (LLe.nil _)))))))))))))) ?_;refine gH ?_
 refine fz ?_;refine gH ?_
 refine fz ?_;refine gH ?_
 refine O.new (ak (l:=[(.slice none 0 0),(.slice none 0 0),(.slice none 0 0),(.slice none 0 0)]) rfl rfl rfl) fun g3 h O=>?_;refine gH ?_
 refine O.stC 4 (.head _) [((au 4 ai) ([(⟨0,([]:(List Nat)),0,0⟩:Node),(⟨0,([]:(List Nat)),0,0⟩:Node),(⟨5,([0,1]:(List Nat)),0,0⟩:Node)]:(List Node))),((au 1 Value.string) ([(⟨#[97]⟩:ByteArray),(⟨#[98]⟩:ByteArray),(⟨#[121]⟩:ByteArray)]:(List ByteArray))),(.slice none 0 0),((au 1 i64) ([2]:(List Nat)))] fun h O=>?_;refine gX ?_
 refine ldA (O.at (.head _)) ?_;refine gH ?_
 refine caW (iX hm O.has) (LLe.cons (VLe.agg (LLe.cons (VLe.refl _ _) (LLe.cons (VLe.refl _ _) (LLe.cons (VLe.nil _ _) (LLe.cons (VLe.refl _ _) (LLe.nil _)))))) (LLe.cons (VLe.refl _ _) (LLe.nil _))) fun r5 hm=>?_;refine gX ?_
 refine ldA (O.at (.head _)) ?_;refine gH ?_
 refine O.stC 4 (.tail _ (.head _)) [((au 4 ai) ([(⟨0,([]:(List Nat)),0,0⟩:Node),(⟨0,([]:(List Nat)),0,0⟩:Node),(⟨5,([0,1]:(List Nat)),0,0⟩:Node)]:(List Node))),((au 1 Value.string) ([(⟨#[97]⟩:ByteArray),(⟨#[98]⟩:ByteArray),(⟨#[121]⟩:ByteArray)]:(List ByteArray))),(.slice none 0 0),((au 1 i64) ([2]:(List Nat)))] fun h O=>?_;refine gX ?_
 refine⟨_,aV rfl rfl (O.at (.tail _ (.head _))) rfl rfl (lbE rfl) rfl,?_⟩;conv=>whnf
 exact⟨((⟨([(⟨0,([]:(List Nat)),0,0⟩:Node),(⟨0,([]:(List Nat)),0,0⟩:Node),(⟨5,([0,1]:(List Nat)),0,0⟩:Node)]:(List Node)),([(⟨#[97]⟩:ByteArray),(⟨#[98]⟩:ByteArray),(⟨#[121]⟩:ByteArray)]:(List ByteArray)),[],([2]:(List Nat))⟩:Circ),r5.1),hm,O.ext,fun h2 F=>VLe.tup (LLe.cons (VLe.agg (LLe.cons (VLe.refl _ _) (LLe.cons (VLe.refl _ _) (LLe.cons (VLe.nil _ _) (LLe.cons (VLe.refl _ _) (LLe.nil _)))))) (LLe.cons (VLe.refl _ _) (LLe.nil _)))⟩
def az (p0:(List Nat)) (p1:(List Nat)) (K:Bool->Prop):Prop :=
 al (α:=Bool) (fun k2=>((neN p0.length p1.length)=true->k2 true)/\((neN p0.length p1.length)=false->k2 (neN p0.length p0.length))) (fun v1=>(v1=true->K false)/\(v1=false->al (α:=Unit) (fun k3=>aI (S:=Nat) (fun v4 nx5=>((ltN v4 p0.length)=true->∃ x6,p0[v4]?=some x6/\∃ x7,p1[v4]?=some x7/\((neN x6 x7)=true->K false)/\((neN x6 x7)=false->v4+1<2 ^ 63/\nx5 (v4+1)))/\((ltN v4 p0.length)=false->k3 ())) 0) (fun _=>K true)))
theorem aX {p0:(List Nat)}{p1:(List Nat)}{K:Bool->Prop} (hm:az p0 p1 K) {h0:Heap} (hB:HasB vars h0):∃ r,K r/\CallD Tryd.prog NG 22 ⟨[(aK 1 i64) p0,(au 1 i64) p1]⟩ h0 (Value.bool r) h0:=by
 unfold az at hm
 refine fw Tryd.func22 hB (enc:=Value.bool) (fun r=>PureV.flat rfl) fun O=>?_;conv=>whnf
 apply Cs;conv=>whnf
 apply Cs;refine gH ?_
 apply Cs;conv=>whnf
 refine jn hm 33 [0,1] (fun s=>s) (fun v1 h=>Own vars h0 [] h) (fun v1=>[(17,(.bool v1))]) (fun hm=>?_) ?_
 ·refine gX ?_
  refine lmC ?_;refine gH ?_
  refine br hm (fun hm=>?_) fun hm=>?_
  ·refine gX ?_
   exact jx true hm O
  ·refine gX ?_
   refine cpC ?_;refine gH ?_
   refine lmC ?_;refine gH ?_
   exact jx (neN p0.length p0.length) hm O
 ·clear hm;rintro v1 base h hm O
  refine gX ?_
  refine br hm (fun hm=>?_) fun hm=>?_
  ·refine gX ?_
   exact fe hm O
  ·apply Cs;conv=>whnf
   refine jn hm 33 [] (fun s=>s) (fun _ h=>Own vars h0 [] h) (fun _=>[]) (fun hm=>?_) ?_
   ·refine gX ?_
    refine lw 33 [0,1] (σ:=Nat) (fun s=>s) (fun v4 h=>Own vars h0 [] h) (fun v4=>[(5,(i64 v4))]) 0 hm O ?_
    clear hm;rintro v4 nx5 base h hm O
    refine gX ?_
    refine lmC ?_;refine gX ?_
    refine br hm (fun hm=>?_) fun hm=>?_
    ·refine gX ?_
     refine atC hm fun x6 hx6 hm=>?_;refine gH ?_
     refine atF hm fun x7 hx7 hm=>?_;refine gX ?_
     refine br hm (fun hm=>?_) fun hm=>?_
     ·refine gX ?_
      exact fe hm O
     ·refine gX ?_
      refine bn hm fun hm=>?_;refine gH ?_
      exact jx (v4+1) hm O
    ·refine gX ?_
     exact jx () hm O
   ·clear hm;rintro _ base h hm O
    refine gX ?_
    exact fe hm O
def bA  (K:Bool->Prop):Prop :=
 bZ  (fun r1=>bw r1.1 r1.2 (fun r4=>bz r1.1 r1.2 (fun r5=>cw r1.1 r1.2 (fun r6=>fy r1.1 r1.2 ([7]:(List Nat)) (fun r7=>al (α:=Bool) (fun k9=>((neN r4.2 0)=true->k9 true)/\((neN r4.2 0)=false->((neN r5.2 0)=true->k9 true)/\((neN r5.2 0)=false->((neN r6.2 0)=true->k9 true)/\((neN r6.2 0)=false->((neN r7.2 0)=true->k9 true)/\((neN r7.2 0)=false->((neN r4.1.length 4)=true->k9 true)/\((neN r4.1.length 4)=false->k9 (neN r5.1.length 2))))))) (fun v8=>(v8=true->K false)/\(v8=false->∃ x10,r4.1[0]?=some x10/\az x10 ([0,2,4,6,8]:(List Nat)) (fun r11=>(r11=true->∃ x12,r4.1[1]?=some x12/\az x12 ([1,7]:(List Nat)) (fun r13=>(r13=true->∃ x14,r4.1[2]?=some x14/\az x14 ([3,9]:(List Nat)) (fun r15=>(r15=true->∃ x16,r4.1[3]?=some x16/\az x16 ([5]:(List Nat)) (fun r17=>(r17=true->∃ x18,r5.1[0]?=some x18/\(((eqN x18.a 1)&&((eqN x18.b 3)&&true))=true->∃ x19,r5.1[1]?=some x19/\(((eqN x19.a 2)&&((eqN x19.b 3)&&true))=true->az r6.1 ([0,1,3]:(List Nat)) (fun r20=>(r20=true->az r7.1 ([1,5,7]:(List Nat)) (fun r21=>K r21))/\(r20=false->K false)))/\(((eqN x19.a 2)&&((eqN x19.b 3)&&true))=false->K false))/\(((eqN x18.a 1)&&((eqN x18.b 3)&&true))=false->K false))/\(r17=false->K false)))/\(r15=false->K false)))/\(r13=false->K false)))/\(r11=false->K false)))))))))
theorem gC  {K:Bool->Prop} (hm:bA  K) {h0:Heap} (hB:HasB vars h0):∃ r,K r/\CallD Tryd.prog NG 9 ⟨[]⟩ h0 (Value.bool r) h0:=by
 unfold bA at hm
 refine fw Tryd.func9 hB (enc:=Value.bool) (fun r=>PureV.flat rfl) fun O=>?_;conv=>whnf
 refine gX ?_
 refine ca (gS hm O.has) fun r1 hm=>?_;refine gH ?_
 refine O.new (ak (l:=[nS,nS,nS,nS]) rfl rfl rfl) fun g2 h O=>?_;refine gH ?_
 refine O.stC 4 (.head _) [((au 4 ai) r1.1.nodes),((au 1 Value.string) r1.1.names),((au 3 aJ) r1.1.mems),((au 1 i64) r1.1.outs)] fun h O=>?_;refine gX ?_
 refine ldA (O.at (.head _)) ?_;refine gH ?_
 refine ca (eA hm O.has) fun r4 hm=>?_;refine gX ?_
 refine ldA (O.at (.head _)) ?_;refine gH ?_
 refine ca (gz hm O.has) fun r5 hm=>?_;refine gX ?_
 refine ldA (O.at (.head _)) ?_;refine gH ?_
 refine ca (kI hm O.has) fun r6 hm=>?_;refine gX ?_
 refine ldA (O.at (.head _)) ?_;refine gH ?_
 refine fz ?_;refine gH ?_
 refine ca (jg hm O.has) fun r7 hm=>?_;refine gH ?_
 apply Cs;conv=>whnf
 refine jn hm 114 [3,5,7,9] (fun s=>s) (fun v8 h=>Own vars h0 [] h) (fun v8=>[(63,(.bool v8))]) (fun hm=>?_) ?_
 ·refine gX ?_
  refine br hm (fun hm=>?_) fun hm=>?_
  ·refine gX ?_
   refine bt ?_;refine gH ?_
   refine bt ?_;refine gH ?_
   refine bt ?_;refine gH ?_
   refine bt ?_;refine gH ?_
   exact jx true hm (O.sel [] (by decide))
  ·refine gX ?_
   refine br hm (fun hm=>?_) fun hm=>?_
   ·refine gX ?_
    refine bt ?_;refine gH ?_
    refine bt ?_;refine gH ?_
    refine bt ?_;refine gH ?_
    exact jx true hm (O.sel [] (by decide))
   ·refine gX ?_
    refine br hm (fun hm=>?_) fun hm=>?_
    ·refine gX ?_
     refine bt ?_;refine gH ?_
     refine bt ?_;refine gH ?_
     exact jx true hm (O.sel [] (by decide))
    ·refine gX ?_
     refine br hm (fun hm=>?_) fun hm=>?_
     ·refine gX ?_
      refine bt ?_;refine gH ?_
      exact jx true hm (O.sel [] (by decide))
     ·refine gX ?_
      refine lmC ?_;refine gH ?_
      refine br hm (fun hm=>?_) fun hm=>?_
      ·refine gX ?_
       exact jx true hm (O.sel [] (by decide))
      ·refine gX ?_
       exact jx (neN r5.1.length 2) hm (O.sel [] (by decide))
 ·clear hm;rintro v8 base h hm O
  refine gX ?_
  refine br hm (fun hm=>?_) fun hm=>?_
  ·refine gX ?_
   exact fe hm O
  ·refine gX ?_
   refine atC hm fun x10 hx10 hm=>?_;refine gH ?_
   refine fz ?_;refine gH ?_
   refine ca (aX hm O.has) fun r11 hm=>?_;refine gH ?_
   refine br hm (fun hm=>?_) fun hm=>?_
   ·refine gX ?_
    refine atC hm fun x12 hx12 hm=>?_;refine gH ?_
    refine fz ?_;refine gH ?_
    refine ca (aX hm O.has) fun r13 hm=>?_;refine gH ?_
    refine br hm (fun hm=>?_) fun hm=>?_
    ·refine gX ?_
     refine atC hm fun x14 hx14 hm=>?_;refine gH ?_
     refine fz ?_;refine gH ?_
     refine ca (aX hm O.has) fun r15 hm=>?_;refine gH ?_
     refine br hm (fun hm=>?_) fun hm=>?_
     ·refine gX ?_
      refine atC hm fun x16 hx16 hm=>?_;refine gH ?_
      refine fz ?_;refine gH ?_
      refine ca (aX hm O.has) fun r17 hm=>?_;refine gH ?_
      refine br hm (fun hm=>?_) fun hm=>?_
      ·refine gX ?_
       refine atF hm fun x18 hx18 hm=>?_;refine gH ?_
       refine⟨.bool ((eqN x18.a 1)&&((eqN x18.b 3)&&true)),by kernel_rfl,?_⟩;refine gH ?_
       refine br hm (fun hm=>?_) fun hm=>?_
       ·refine gX ?_
        refine atF hm fun x19 hx19 hm=>?_;refine gH ?_
        refine⟨.bool ((eqN x19.a 2)&&((eqN x19.b 3)&&true)),by kernel_rfl,?_⟩;refine gH ?_
        refine br hm (fun hm=>?_) fun hm=>?_
        ·refine gX ?_
         refine fz ?_;refine gH ?_
         refine ca (aX hm O.has) fun r20 hm=>?_;refine gH ?_
         refine br hm (fun hm=>?_) fun hm=>?_
         ·refine gX ?_
          refine fz ?_;refine gH ?_
          refine ca (aX hm O.has) fun r21 hm=>?_;refine gX ?_
          exact fe hm O
         ·refine gX ?_
          exact fe hm O
        ·refine gX ?_
         refine bf ?_;refine gX ?_
         exact fe hm O
       ·refine gX ?_
        refine bf ?_;refine gH ?_
        refine bf ?_;refine gX ?_
        exact fe hm O
      ·refine gX ?_
       refine bf ?_;refine gH ?_
       refine bf ?_;refine gH ?_
       refine bf ?_;refine gX ?_
       exact fe hm O
     ·refine gX ?_
      refine bf ?_;refine gH ?_
      refine bf ?_;refine gH ?_
      refine bf ?_;refine gH ?_
      refine bf ?_;refine gX ?_
      exact fe hm O
    ·refine gX ?_
     refine bf ?_;refine gH ?_
     refine bf ?_;refine gH ?_
     refine bf ?_;refine gH ?_
     refine bf ?_;refine gH ?_
     refine bf ?_;refine gX ?_
     exact fe hm O
   ·refine gX ?_
    refine bf ?_;refine gH ?_
    refine bf ?_;refine gH ?_
    refine bf ?_;refine gH ?_
    refine bf ?_;refine gH ?_
    refine bf ?_;refine gH ?_
    refine bf ?_;refine gX ?_
    exact fe hm O
def bQ (p0:CData) (K:(Circ×(List Flt))->Prop):Prop :=
 bN p0 (fun r3=>eV r3 0 (fun r6=>K (r3,r6.1)))
theorem hZ {p0:CData}{K:(Circ×(List Flt))->Prop} (hm:bQ p0 K) {h0:Heap} (hB:HasB vars h0):∃ r,K r/\CallD Tryd.prog NG 6 ⟨[bm p0]⟩ h0 ((fun (r:(Circ×(List Flt)))=>Value.tuple ⟨[aw (r.1),(au 5 aC) (r.2)]⟩) r) h0:=by
 unfold bQ at hm
 refine fw Tryd.func6 hB (enc:=(fun (r:(Circ×(List Flt)))=>Value.tuple ⟨[aw (r.1),(au 5 aC) (r.2)]⟩)) (fun r=>PureV.tup (ah.cons (kq _) (ah.cons (gE (fun _=>kv _)) (ah.nil)))) fun O=>?_;conv=>whnf
 refine gX ?_
 refine fz ?_;refine gH ?_
 refine O.new (ak (l:=[(.slice none 0 0),(.slice none 0 0),(.slice none 0 0),(.slice none 0 0)]) rfl rfl rfl) fun g1 h O=>?_;refine gH ?_
 refine gX ?_
 refine ca (fK hm O.has) fun r3 hm=>?_;refine gH ?_
 refine O.new (ak (l:=[(.slice none 0 0),(.slice none 0 0),(.slice none 0 0),(.slice none 0 0)]) rfl rfl rfl) fun g4 h O=>?_;refine gH ?_
 refine O.stC 4 (.head _) [((au 4 ai) r3.nodes),((au 1 Value.string) r3.names),((au 3 aJ) r3.mems),((au 1 i64) r3.outs)] fun h O=>?_;refine gX ?_
 refine ldA (O.at (.head _)) ?_;refine gH ?_
 refine ca (iX hm O.has) fun r6 hm=>?_;refine gX ?_
 refine ldA (O.at (.head _)) ?_;refine gH ?_
 refine O.stC 4 (.tail _ (.head _)) [((au 4 ai) r3.nodes),((au 1 Value.string) r3.names),((au 3 aJ) r3.mems),((au 1 i64) r3.outs)] fun h O=>?_;refine gX ?_
 refine⟨_,aV rfl rfl (O.at (.tail _ (.head _))) rfl rfl (lbE rfl) rfl,?_⟩;conv=>whnf
 exact⟨(r3,r6.1),hm,O.ext,fun h2 F=>VLe.tup (LLe.cons (VLe.refl _ _) (LLe.cons (VLe.refl _ _) (LLe.nil _)))⟩
set_option maxHeartbeats 8000000
structure F2 where
 a:Flt
 b:Flt
def bq (x:F2):Value:=.agg ⟨cl (aC x.a)++cl (aC x.b)⟩
theorem yr (x:F2):ah (cl (bq x)):=ah.cons (PureV.flat rfl) (ah.cons (PureV.flat rfl) (ah.cons (PureV.flat rfl) (ah.cons (PureV.flat rfl) (ah.cons (PureV.flat rfl) (kv x.b)))))
def bo (p0:Circ) (K:(List F2)->Prop):Prop :=
 al (α:=(List F2)) (fun k6=>aI (S:=((List F2)×Nat)) (fun (v8,v9) nx11=>((ltN v9 p0.nodes.length)=true->al (α:=(List F2)) (fun k15=>∃ x16,p0.nodes[v9]?=some x16/\aI (S:=((List F2)×Nat)) (fun (v18,v19) nx21=>∃ x22,p0.nodes[v9]?=some x22/\((ltN v19 x22.ins.length)=true->al (α:=(List F2)) (fun k26=>aI (S:=((List F2)×Nat)) (fun (v30,v31) nx33=>((!ltN 1 v31)=true->al (α:=(List F2)) (fun k37=>al (α:=Nat) (fun k40=>al (α:=Bool) (fun k43=>((eqN x16.kind 3)=true->k43 true)/\((eqN x16.kind 3)=false->((eqN x16.kind 13)=true->∃ x44,p0.nodes[v9]?=some x44/\((eqN x44.ins.length 1)=true->k43 true)/\((eqN x44.ins.length 1)=false->((eqN x16.kind 5)=true->((eqN v31 0)=true->k43 true)/\((eqN v31 0)=false->((eqN x16.kind 7)=true->k43 (eqN v31 1))/\((eqN x16.kind 7)=false->k43 false)))/\((eqN x16.kind 5)=false->((eqN x16.kind 7)=true->k43 (eqN v31 1))/\((eqN x16.kind 7)=false->k43 false))))/\((eqN x16.kind 13)=false->((eqN x16.kind 5)=true->((eqN v31 0)=true->k43 true)/\((eqN v31 0)=false->((eqN x16.kind 7)=true->k43 (eqN v31 1))/\((eqN x16.kind 7)=false->k43 false)))/\((eqN x16.kind 5)=false->((eqN x16.kind 7)=true->k43 (eqN v31 1))/\((eqN x16.kind 7)=false->k43 false))))) (fun v41=>(v41=true->k40 v31)/\(v41=false->al (α:=Bool) (fun k47=>((eqN x16.kind 4)=true->k47 true)/\((eqN x16.kind 4)=false->((eqN x16.kind 6)=true->((eqN v31 0)=true->k47 true)/\((eqN v31 0)=false->((eqN x16.kind 8)=true->k47 (eqN v31 1))/\((eqN x16.kind 8)=false->k47 false)))/\((eqN x16.kind 6)=false->((eqN x16.kind 8)=true->k47 (eqN v31 1))/\((eqN x16.kind 8)=false->k47 false)))) (fun v45=>(v45=true->v31<=1/\1<256/\k40 (1-v31))/\(v45=false->k40 2))))) (fun v38=>((neN v38 2)=true->(v30.length+([(⟨(⟨0,(⟨v9,(Int.ofNat v19)⟩:LnZ),v31,0⟩:Flt),(⟨0,(⟨v9,(Int.negSucc 0)⟩:LnZ),v38,0⟩:Flt)⟩:F2)]:(List F2)).length)*80<=2 ^ 47/\k37 (v30++([(⟨(⟨0,(⟨v9,(Int.ofNat v19)⟩:LnZ),v31,0⟩:Flt),(⟨0,(⟨v9,(Int.negSucc 0)⟩:LnZ),v38,0⟩:Flt)⟩:F2)]:(List F2))))/\((neN v38 2)=false->k37 v30))) (fun v35=>v31+1<256/\nx33 (v35,(v31+1))))/\((!ltN 1 v31)=false->k26 v30)) (v18,0)) (fun v24=>v19+1<2 ^ 63/\nx21 (v24,(v19+1))))/\((ltN v19 x22.ins.length)=false->k15 v18)) (v8,0)) (fun v13=>v9+1<2 ^ 63/\nx11 (v13,(v9+1))))/\((ltN v9 p0.nodes.length)=false->k6 v8)) (([]:List F2),0)) (fun v4=>al (α:=(List F2)) (fun k53=>aI (S:=((List F2)×Nat)) (fun (v55,v56) nx58=>((ltN v56 p0.nodes.length)=true->al (α:=(List F2)) (fun k62=>al (α:=(Nat×Nat×Int)) (fun k69=>aI (S:=(Nat×Nat×Int×Nat)) (fun (v70,v71,v72,v73) nx75=>((ltN v73 p0.nodes.length)=true->al (α:=(Nat×Nat×Int)) (fun k80=>aI (S:=(Nat×Nat×Int×Nat)) (fun (v81,v82,v83,v84) nx86=>∃ x87,p0.nodes[v73]?=some x87/\((ltN v84 x87.ins.length)=true->al (α:=(Nat×Nat×Int)) (fun k92=>∃ x93,p0.nodes[v73]?=some x93/\∃ x94,x93.ins[v84]?=some x94/\((eqN x94 v56)=true->v81+1<2 ^ 63/\k92 ((v81+1),v73,(Int.ofNat v84)))/\((eqN x94 v56)=false->k92 (v81,v82,v83))) (fun (v88,v89,v90)=>v84+1<2 ^ 63/\nx86 (v88,v89,v90,(v84+1))))/\((ltN v84 x87.ins.length)=false->k80 (v81,v82,v83))) (v70,v71,v72,0)) (fun (v76,v77,v78)=>v73+1<2 ^ 63/\nx75 (v76,v77,v78,(v73+1))))/\((ltN v73 p0.nodes.length)=false->k69 (v70,v71,v72))) (0,0,0,0)) (fun (v65,v66,v67)=>al (α:=Nat) (fun k97=>aI (S:=(Nat×Nat)) (fun (v98,v99) nx101=>((ltN v99 p0.outs.length)=true->al (α:=Nat) (fun k104=>∃ x105,p0.outs[v99]?=some x105/\((eqN x105 v56)=true->k104 2)/\((eqN x105 v56)=false->k104 v98)) (fun v102=>v99+1<2 ^ 63/\nx101 (v102,(v99+1))))/\((ltN v99 p0.outs.length)=false->k97 v98)) (v65,0)) (fun v95=>aI (S:=((List F2)×Nat)) (fun (v107,v108) nx110=>al (α:=Bool) (fun k113=>((!ltN 1 v108)=true->k113 (eqN v95 1))/\((!ltN 1 v108)=false->k113 false)) (fun v111=>(v111=true->(v107.length+([(⟨(⟨0,(⟨v56,(Int.negSucc 0)⟩:LnZ),v108,0⟩:Flt),(⟨0,(⟨v66,v67⟩:LnZ),v108,0⟩:Flt)⟩:F2)]:(List F2)).length)*80<=2 ^ 47/\v108+1<256/\nx110 ((v107++([(⟨(⟨0,(⟨v56,(Int.negSucc 0)⟩:LnZ),v108,0⟩:Flt),(⟨0,(⟨v66,v67⟩:LnZ),v108,0⟩:Flt)⟩:F2)]:(List F2))),(v108+1)))/\(v111=false->k62 v107))) (v55,0)))) (fun v60=>v56+1<2 ^ 63/\nx58 (v60,(v56+1))))/\((ltN v56 p0.nodes.length)=false->k53 v55)) (v4,0)) (fun v51=>K v51))
theorem gB {p0:Circ}{K:(List F2)->Prop} (hm:bo p0 K) {h0:Heap} (hB:HasB vars h0):∃ r,K r/\CallD Tryd.prog NG 18 ⟨[aw p0]⟩ h0 ((au 10 bq) r) h0:=by
 unfold bo at hm
 refine fw Tryd.func18 hB (enc:=(au 10 bq)) (fun r=>gE (fun _=>yr _)) fun O=>?_;conv=>whnf
 refine gX ?_
 refine fz ?_;refine gH ?_
 have O:=O.cN (.cells (flatC ((([]:List F2)).map bq)) false)
 apply Cs;conv=>whnf
 apply Cs;refine gH ?_
 have O:=O.cN (.cells (flatC ((([]:List F2)).map bq)) false)
 refine jn (σ:=(List F2)×Option Nat) hm 191 [1] (fun s=>s.1) (fun (v4,a3) h=>(a3=none->v4=[])/\Own vars h0 [(a3,.cells (flatC (v4.map bq)) false)] h) (fun (v4,a3)=>[(3,(ae 10 a3 (v4.map bq)))]) (fun hm=>?_) ?_
 ·refine gX ?_
  refine lw 191 [1] (σ:=((List F2)×Nat)×Option Nat) (fun s=>s.1) (fun ((v8,v9),a7) h=>(a7=none->v8=[])/\Own vars h0 [(a7,.cells (flatC (v8.map bq)) false)] h) (fun ((v8,v9),a7)=>[(3,(ae 10 a7 (v8.map bq))),(4,(i64 v9))]) ((([]:List F2),0),none) hm ⟨(fun _=>rfl),(O.sel [0] (by decide))⟩ ?_
  clear hm;rintro⟨⟨v8,v9⟩,a7⟩ nx11 base h hm ⟨ha10,O⟩
  refine gX ?_
  refine br hm (fun hm=>?_) fun hm=>?_
  ·apply Cs;conv=>whnf
   refine jn (σ:=(List F2)×Option Nat) hm 191 [1,4] (fun s=>s.1) (fun (v13,a12) h=>(a12=none->v13=[])/\Own vars h0 [(a12,.cells (flatC (v13.map bq)) false)] h) (fun (v13,a12)=>[(3,(ae 10 a12 (v13.map bq)))]) (fun hm=>?_) ?_
   ·refine gX ?_
    refine atF hm fun x16 hx16 hm=>?_;refine gX ?_
    refine lw 191 [1,4,5] (σ:=((List F2)×Nat)×Option Nat) (fun s=>s.1) (fun ((v18,v19),a17) h=>(a17=none->v18=[])/\Own vars h0 [(a17,.cells (flatC (v18.map bq)) false)] h) (fun ((v18,v19),a17)=>[(3,(ae 10 a17 (v18.map bq))),(6,(i64 v19))]) ((v8,0),a7) hm ⟨ha10,O⟩ ?_
    clear hm;rintro⟨⟨v18,v19⟩,a17⟩ nx21 base h hm ⟨ha20,O⟩
    refine gX ?_
    refine atF hm fun x22 hx22 hm=>?_;refine gX ?_
    refine br hm (fun hm=>?_) fun hm=>?_
    ·apply Cs;conv=>whnf
     refine jn (σ:=(List F2)×Option Nat) hm 191 [1,4,5,6] (fun s=>s.1) (fun (v24,a23) h=>(a23=none->v24=[])/\Own vars h0 [(a23,.cells (flatC (v24.map bq)) false)] h) (fun (v24,a23)=>[(3,(ae 10 a23 (v24.map bq)))]) (fun hm=>?_) ?_
     ·refine gX ?_
      (first|refine O.new (ak (l:=[(i64 0),(z64 0)]) rfl rfl rfl) fun g27 h O=>?_|refine O.gT (ak (l:=[(i64 0),(z64 0)]) rfl rfl rfl) fun g27 h O=>?_);refine gH ?_
      refine O.stC 2 (.head _) [(i64 v9),(z64 (Int.ofNat v19))] fun h O=>?_;refine gX ?_
      refine lw 191 [1,4,5,6,7] (σ:=((List F2)×Nat)×Option Nat) (fun s=>s.1) (fun ((v30,v31),a29) h=>(a29=none->v30=[])/\Own vars h0 [(a29,.cells (flatC (v30.map bq)) false),(sC g27 [(i64 v9),(z64 (Int.ofNat v19))])] h) (fun ((v30,v31),a29)=>[(3,(ae 10 a29 (v30.map bq))),(8,(n8 v31))]) ((v18,0),a17) hm ⟨ha20,(O.sel [1,0] (by decide))⟩ ?_
      clear hm;rintro⟨⟨v30,v31⟩,a29⟩ nx33 base h hm ⟨ha32,O⟩
      refine gX ?_
      refine br hm (fun hm=>?_) fun hm=>?_
      ·apply Cs;conv=>whnf
       refine jn (σ:=(List F2)×Option Nat) hm 191 [1,4,5,6,7,8] (fun s=>s.1) (fun (v35,a34) h=>(a34=none->v35=[])/\Own vars h0 [(a34,.cells (flatC (v35.map bq)) false),(sC g27 [(i64 v9),(z64 (Int.ofNat v19))])] h) (fun (v35,a34)=>[(3,(ae 10 a34 (v35.map bq)))]) (fun hm=>?_) ?_
       ·apply Cs;conv=>whnf
        apply Cs;conv=>whnf
        apply Cs;refine gH ?_
        refine jn hm 191 [1,3,4,5,6,7,8] (fun s=>s) (fun v38 h=>(a29=none->v30=[])/\Own vars h0 [(a29,.cells (flatC (v30.map bq)) false),(sC g27 [(i64 v9),(z64 (Int.ofNat v19))])] h) (fun v38=>[(9,(n8 v38))]) (fun hm=>?_) ?_
        ·apply Cs;conv=>whnf
         refine jn hm 191 [1,3,4,5,6,7,8,9] (fun s=>s) (fun v41 h=>(a29=none->v30=[])/\Own vars h0 [(a29,.cells (flatC (v30.map bq)) false),(sC g27 [(i64 v9),(z64 (Int.ofNat v19))])] h) (fun v41=>[(48,(.bool v41))]) (fun hm=>?_) ?_
         ·refine gX ?_
          refine br hm (fun hm=>?_) fun hm=>?_
          ·refine gX ?_
           refine bt ?_;refine gH ?_
           refine bt ?_;refine gH ?_
           exact jx true hm ⟨ha32,O⟩
          ·refine gX ?_
           refine br hm (fun hm=>?_) fun hm=>?_
           ·refine gX ?_
            refine atF hm fun x44 hx44 hm=>?_;refine gH ?_
            refine br hm (fun hm=>?_) fun hm=>?_
            ·refine gX ?_
             refine bt ?_;refine gH ?_
             exact jx true hm ⟨ha32,O⟩
            ·refine gX ?_
             refine br hm (fun hm=>?_) fun hm=>?_
             ·refine gX ?_
              refine br hm (fun hm=>?_) fun hm=>?_
              ·refine gX ?_
               exact jx true hm ⟨ha32,O⟩
              ·refine gX ?_
               refine br hm (fun hm=>?_) fun hm=>?_
               ·refine gX ?_
                exact jx (eqN v31 1) hm ⟨ha32,O⟩
               ·refine gX ?_
                exact jx false hm ⟨ha32,O⟩
             ·refine gX ?_
              refine bf ?_;refine gH ?_
              refine br hm (fun hm=>?_) fun hm=>?_
              ·refine gX ?_
               exact jx (eqN v31 1) hm ⟨ha32,O⟩
              ·refine gX ?_
               exact jx false hm ⟨ha32,O⟩
           ·refine gX ?_
            refine bf ?_;refine gH ?_
            refine br hm (fun hm=>?_) fun hm=>?_
            ·refine gX ?_
             refine br hm (fun hm=>?_) fun hm=>?_
             ·refine gX ?_
              exact jx true hm ⟨ha32,O⟩
             ·refine gX ?_
              refine br hm (fun hm=>?_) fun hm=>?_
              ·refine gX ?_
               exact jx (eqN v31 1) hm ⟨ha32,O⟩
              ·refine gX ?_
               exact jx false hm ⟨ha32,O⟩
            ·refine gX ?_
             refine bf ?_;refine gH ?_
             refine br hm (fun hm=>?_) fun hm=>?_
             ·refine gX ?_
              exact jx (eqN v31 1) hm ⟨ha32,O⟩
             ·refine gX ?_
              exact jx false hm ⟨ha32,O⟩
         ·clear hm;rintro v41 base h hm ⟨ha42,O⟩
          refine gX ?_
          refine br hm (fun hm=>?_) fun hm=>?_
          ·refine gX ?_
           exact jx v31 hm ⟨ha42,O⟩
          ·refine jn hm 191 [1,3,4,5,6,7,8,9] (fun s=>s) (fun v45 h=>(a29=none->v30=[])/\Own vars h0 [(a29,.cells (flatC (v30.map bq)) false),(sC g27 [(i64 v9),(z64 (Int.ofNat v19))])] h) (fun v45=>[(82,(.bool v45))]) (fun hm=>?_) ?_
           ·refine gX ?_
            refine br hm (fun hm=>?_) fun hm=>?_
            ·refine gX ?_
             refine bt ?_;refine gH ?_
             exact jx true hm ⟨ha42,O⟩
            ·refine gX ?_
             refine br hm (fun hm=>?_) fun hm=>?_
             ·refine gX ?_
              refine br hm (fun hm=>?_) fun hm=>?_
              ·refine gX ?_
               exact jx true hm ⟨ha42,O⟩
              ·refine gX ?_
               refine br hm (fun hm=>?_) fun hm=>?_
               ·refine gX ?_
                exact jx (eqN v31 1) hm ⟨ha42,O⟩
               ·refine gX ?_
                exact jx false hm ⟨ha42,O⟩
             ·refine gX ?_
              refine bf ?_;refine gH ?_
              refine br hm (fun hm=>?_) fun hm=>?_
              ·refine gX ?_
               exact jx (eqN v31 1) hm ⟨ha42,O⟩
              ·refine gX ?_
               exact jx false hm ⟨ha42,O⟩
           ·clear hm;rintro v45 base h hm ⟨ha46,O⟩
            refine gX ?_
            refine br hm (fun hm=>?_) fun hm=>?_
            ·refine gX ?_
             refine yF hm fun hm=>?_;refine gH ?_
             exact jx (1-v31) hm ⟨ha46,O⟩
            ·refine gX ?_
             exact jx 2 hm ⟨ha46,O⟩
        ·clear hm;rintro v38 base h hm ⟨ha39,O⟩
         refine gX ?_
         refine br hm (fun hm=>?_) fun hm=>?_
         ·refine gX ?_
          refine ldA (O.at (.tail _ (.head _))) ?_;refine gH ?_
          refine fz ?_;refine gH ?_
          refine O.apL (enc:=bq) (l:=v30) (new:=([(⟨(⟨0,(⟨v9,(Int.ofNat v19)⟩:LnZ),v31,0⟩:Flt),(⟨0,(⟨v9,(Int.negSucc 0)⟩:LnZ),v38,0⟩:Flt)⟩:F2)]:(List F2))) 10 (.head _) ha39 hm fun a48 h ha49 O hm=>?_;refine gH ?_
          exact jx ((v30++([(⟨(⟨0,(⟨v9,(Int.ofNat v19)⟩:LnZ),v31,0⟩:Flt),(⟨0,(⟨v9,(Int.negSucc 0)⟩:LnZ),v38,0⟩:Flt)⟩:F2)]:(List F2))),a48) hm ⟨ha49,O⟩
         ·refine gX ?_
          exact jx (v30,a29) hm ⟨ha39,O⟩
       ·clear hm;rintro⟨v35,a34⟩ base h hm ⟨ha36,O⟩
        refine gX ?_
        refine⟨_,jq (a:=v31) (b:=1) rfl rfl hm.1,?_⟩;refine gH ?_
        replace hm:=hm.2
        exact jx ((v35,(v31+1)),a34) hm ⟨ha36,O⟩
      ·refine gX ?_
       exact jx (v30,a29) hm ⟨ha32,(O.sel [0] (by decide))⟩
     ·clear hm;rintro⟨v24,a23⟩ base h hm ⟨ha25,O⟩
      refine gX ?_
      refine bn hm fun hm=>?_;refine gH ?_
      exact jx ((v24,(v19+1)),a23) hm ⟨ha25,O⟩
    ·refine gX ?_
     exact jx (v18,a17) hm ⟨ha20,O⟩
   ·clear hm;rintro⟨v13,a12⟩ base h hm ⟨ha14,O⟩
    refine gX ?_
    refine bn hm fun hm=>?_;refine gH ?_
    exact jx ((v13,(v9+1)),a12) hm ⟨ha14,O⟩
  ·refine gX ?_
   exact jx (v8,a7) hm ⟨ha10,O⟩
 ·clear hm;rintro⟨v4,a3⟩ base h hm ⟨ha5,O⟩
  conv=>whnf
  refine jn (σ:=(List F2)×Option Nat) hm 191 [] (fun s=>s.1) (fun (v51,a50) h=>(a50=none->v51=[])/\Own vars h0 [(a50,.cells (flatC (v51.map bq)) false)] h) (fun (v51,a50)=>[(3,(ae 10 a50 (v51.map bq)))]) (fun hm=>?_) ?_
  ·refine gX ?_
   refine lw 191 [1] (σ:=((List F2)×Nat)×Option Nat) (fun s=>s.1) (fun ((v55,v56),a54) h=>(a54=none->v55=[])/\Own vars h0 [(a54,.cells (flatC (v55.map bq)) false)] h) (fun ((v55,v56),a54)=>[(3,(ae 10 a54 (v55.map bq))),(10,(i64 v56))]) ((v4,0),a3) hm ⟨ha5,O⟩ ?_
   clear hm;rintro⟨⟨v55,v56⟩,a54⟩ nx58 base h hm ⟨ha57,O⟩
   refine gX ?_
   refine br hm (fun hm=>?_) fun hm=>?_
   ·apply Cs;conv=>whnf
    refine jn (σ:=(List F2)×Option Nat) hm 191 [1,10] (fun s=>s.1) (fun (v60,a59) h=>(a59=none->v60=[])/\Own vars h0 [(a59,.cells (flatC (v60.map bq)) false)] h) (fun (v60,a59)=>[(3,(ae 10 a59 (v60.map bq)))]) (fun hm=>?_) ?_
    ·refine gX ?_
     (first|refine O.new (ak (l:=[(i64 0),(z64 0)]) rfl rfl rfl) fun g63 h O=>?_|refine O.gT (ak (l:=[(i64 0),(z64 0)]) rfl rfl rfl) fun g63 h O=>?_);refine gH ?_
     refine jn hm 191 [1,3,10,12] (fun s=>s) (fun (v65,v66,v67) h=>(a54=none->v55=[])/\Own vars h0 [(a54,.cells (flatC (v55.map bq)) false),(sC g63 [(i64 v66),(z64 v67)])] h) (fun (v65,v66,v67)=>[(11,(i64 v65))]) (fun hm=>?_) ?_
     ·refine gX ?_
      refine lw 191 [1,3,10,12] (σ:=(Nat×Nat×Int×Nat)) (fun s=>s) (fun (v70,v71,v72,v73) h=>(a54=none->v55=[])/\Own vars h0 [(a54,.cells (flatC (v55.map bq)) false),(sC g63 [(i64 v71),(z64 v72)])] h) (fun (v70,v71,v72,v73)=>[(11,(i64 v70)),(13,(i64 v73))]) (0,0,0,0) hm ⟨ha57,(O.sel [1,0] (by decide))⟩ ?_
      clear hm;rintro⟨v70,v71,v72,v73⟩ nx75 base h hm ⟨ha74,O⟩
      refine gX ?_
      refine br hm (fun hm=>?_) fun hm=>?_
      ·apply Cs;conv=>whnf
       refine jn hm 191 [1,3,10,12,13] (fun s=>s) (fun (v76,v77,v78) h=>(a54=none->v55=[])/\Own vars h0 [(a54,.cells (flatC (v55.map bq)) false),(sC g63 [(i64 v77),(z64 v78)])] h) (fun (v76,v77,v78)=>[(11,(i64 v76))]) (fun hm=>?_) ?_
       ·refine gX ?_
        refine lw 191 [1,3,10,12,13] (σ:=(Nat×Nat×Int×Nat)) (fun s=>s) (fun (v81,v82,v83,v84) h=>(a54=none->v55=[])/\Own vars h0 [(a54,.cells (flatC (v55.map bq)) false),(sC g63 [(i64 v82),(z64 v83)])] h) (fun (v81,v82,v83,v84)=>[(11,(i64 v81)),(14,(i64 v84))]) (v70,v71,v72,0) hm ⟨ha74,O⟩ ?_
        clear hm;rintro⟨v81,v82,v83,v84⟩ nx86 base h hm ⟨ha85,O⟩
        refine gX ?_
        refine atF hm fun x87 hx87 hm=>?_;refine gX ?_
        refine br hm (fun hm=>?_) fun hm=>?_
        ·apply Cs;conv=>whnf
         refine jn hm 191 [1,3,10,12,13,14] (fun s=>s) (fun (v88,v89,v90) h=>(a54=none->v55=[])/\Own vars h0 [(a54,.cells (flatC (v55.map bq)) false),(sC g63 [(i64 v89),(z64 v90)])] h) (fun (v88,v89,v90)=>[(11,(i64 v88))]) (fun hm=>?_) ?_
         ·refine gX ?_
          refine atF hm fun x93 hx93 hm=>?_;refine gH ?_
          refine atF hm fun x94 hx94 hm=>?_;refine gX ?_
          refine br hm (fun hm=>?_) fun hm=>?_
          ·refine gX ?_
           refine bn hm fun hm=>?_;refine gX ?_
           refine O.stC 2 (.tail _ (.head _)) [(i64 v73),(z64 (Int.ofNat v84))] fun h O=>?_;refine gH ?_
           exact jx ((v81+1),v73,(Int.ofNat v84)) hm ⟨ha85,O⟩
          ·refine gX ?_
           exact jx (v81,v82,v83) hm ⟨ha85,O⟩
         ·clear hm;rintro⟨v88,v89,v90⟩ base h hm ⟨ha91,O⟩
          refine gX ?_
          refine bn hm fun hm=>?_;refine gH ?_
          exact jx (v88,v89,v90,(v84+1)) hm ⟨ha91,O⟩
        ·refine gX ?_
         exact jx (v81,v82,v83) hm ⟨ha85,O⟩
       ·clear hm;rintro⟨v76,v77,v78⟩ base h hm ⟨ha79,O⟩
        refine gX ?_
        refine bn hm fun hm=>?_;refine gH ?_
        exact jx (v76,v77,v78,(v73+1)) hm ⟨ha79,O⟩
      ·refine gX ?_
       exact jx (v70,v71,v72) hm ⟨ha74,O⟩
     ·clear hm;rintro⟨v65,v66,v67⟩ base h hm ⟨ha68,O⟩
      conv=>whnf
      refine jn hm 191 [1,3,10,12] (fun s=>s) (fun v95 h=>(a54=none->v55=[])/\Own vars h0 [(a54,.cells (flatC (v55.map bq)) false),(sC g63 [(i64 v66),(z64 v67)])] h) (fun v95=>[(11,(i64 v95))]) (fun hm=>?_) ?_
      ·refine gX ?_
       refine lw 191 [1,3,10,12] (σ:=(Nat×Nat)) (fun s=>s) (fun (v98,v99) h=>(a54=none->v55=[])/\Own vars h0 [(a54,.cells (flatC (v55.map bq)) false),(sC g63 [(i64 v66),(z64 v67)])] h) (fun (v98,v99)=>[(11,(i64 v98)),(15,(i64 v99))]) (v65,0) hm ⟨ha68,O⟩ ?_
       clear hm;rintro⟨v98,v99⟩ nx101 base h hm ⟨ha100,O⟩
       refine gX ?_
       refine br hm (fun hm=>?_) fun hm=>?_
       ·apply Cs;conv=>whnf
        refine jn hm 191 [1,3,10,12,15] (fun s=>s) (fun v102 h=>(a54=none->v55=[])/\Own vars h0 [(a54,.cells (flatC (v55.map bq)) false),(sC g63 [(i64 v66),(z64 v67)])] h) (fun v102=>[(11,(i64 v102))]) (fun hm=>?_) ?_
        ·refine gX ?_
         refine atF hm fun x105 hx105 hm=>?_;refine gX ?_
         refine br hm (fun hm=>?_) fun hm=>?_
         ·refine gX ?_
          exact jx 2 hm ⟨ha100,O⟩
         ·refine gX ?_
          exact jx v98 hm ⟨ha100,O⟩
        ·clear hm;rintro v102 base h hm ⟨ha103,O⟩
         refine gX ?_
         refine bn hm fun hm=>?_;refine gH ?_
         exact jx (v102,(v99+1)) hm ⟨ha103,O⟩
       ·refine gX ?_
        exact jx v98 hm ⟨ha100,O⟩
      ·clear hm;rintro v95 base h hm ⟨ha96,O⟩
       refine gX ?_
       refine lw 191 [1,10,11,12] (σ:=((List F2)×Nat)×Option Nat) (fun s=>s.1) (fun ((v107,v108),a106) h=>(a106=none->v107=[])/\Own vars h0 [(a106,.cells (flatC (v107.map bq)) false),(sC g63 [(i64 v66),(z64 v67)])] h) (fun ((v107,v108),a106)=>[(3,(ae 10 a106 (v107.map bq))),(16,(n8 v108))]) ((v55,0),a54) hm ⟨ha96,O⟩ ?_
       clear hm;rintro⟨⟨v107,v108⟩,a106⟩ nx110 base h hm ⟨ha109,O⟩
       conv=>whnf
       apply Cs;conv=>whnf
       refine jn hm 191 [1,3,10,11,12,16] (fun s=>s) (fun v111 h=>(a106=none->v107=[])/\Own vars h0 [(a106,.cells (flatC (v107.map bq)) false),(sC g63 [(i64 v66),(z64 v67)])] h) (fun v111=>[(176,(.bool v111))]) (fun hm=>?_) ?_
       ·refine gX ?_
        refine br hm (fun hm=>?_) fun hm=>?_
        ·refine gX ?_
         exact jx (eqN v95 1) hm ⟨ha109,O⟩
        ·refine gX ?_
         exact jx false hm ⟨ha109,O⟩
       ·clear hm;rintro v111 base h hm ⟨ha112,O⟩
        refine gX ?_
        refine br hm (fun hm=>?_) fun hm=>?_
        ·refine gX ?_
         refine ldA (O.at (.tail _ (.head _))) ?_;refine gH ?_
         refine fz ?_;refine gH ?_
         refine O.apL (enc:=bq) (l:=v107) (new:=([(⟨(⟨0,(⟨v56,(Int.negSucc 0)⟩:LnZ),v108,0⟩:Flt),(⟨0,(⟨v66,v67⟩:LnZ),v108,0⟩:Flt)⟩:F2)]:(List F2))) 10 (.head _) ha112 hm fun a114 h ha115 O hm=>?_;refine gX ?_
         refine⟨_,jq (a:=v108) (b:=1) rfl rfl hm.1,?_⟩;refine gH ?_
         replace hm:=hm.2
         exact jx (((v107++([(⟨(⟨0,(⟨v56,(Int.negSucc 0)⟩:LnZ),v108,0⟩:Flt),(⟨0,(⟨v66,v67⟩:LnZ),v108,0⟩:Flt)⟩:F2)]:(List F2))),(v108+1)),a114) hm ⟨ha115,O⟩
        ·refine gX ?_
         exact jx (v107,a106) hm ⟨ha112,(O.sel [0] (by decide))⟩
    ·clear hm;rintro⟨v60,a59⟩ base h hm ⟨ha61,O⟩
     refine gX ?_
     refine bn hm fun hm=>?_;refine gH ?_
     exact jx ((v60,(v56+1)),a59) hm ⟨ha61,O⟩
   ·refine gX ?_
    exact jx (v55,a54) hm ⟨ha57,O⟩
  ·clear hm;rintro⟨v51,a50⟩ base h hm ⟨ha52,O⟩
   refine gX ?_
   exact⟨v51,hm,O.ext,fun h2 F=>O.iD F (Nat.le_refl _) (.head _) ha52 (fun _=>rfl)⟩
def bk (p0:Circ) (p1:(List Flt)) (K:(List Nat)->Prop):Prop :=
 bo p0 (fun r1=>8*p1.length<=2 ^ 48/\p1.length<2 ^ 63/\al (α:=((List (Flt×Nat))×(List Nat))) (fun k8=>aI (S:=((List (Flt×Nat))×(List Nat)×Nat)) (fun (v9,v10,v11) nx12=>((ltN v11 p1.length)=true->∃ x13,p1[v11]?=some x13/\v11<p1.length/\∃ x14,v10[v11]?=some x14/\v11+1<2 ^ 63/\nx12 ((fM v9 x13 v11),(v10.set v11 v11),(v11+1)))/\((ltN v11 p1.length)=false->k8 (v9,v10))) (([]:List (Flt×Nat)),(List.replicate p1.length (0:Nat)),0)) (fun (v6,v7)=>al (α:=(List Nat)) (fun k16=>aI (S:=((List Nat)×Bool)) (fun (v17,v18) nx19=>(v18=true->aI (S:=((List Nat)×Bool×Nat)) (fun (v20,v21,v22) nx23=>((ltN v22 r1.length)=true->al (α:=((List Nat)×Bool)) (fun k26=>∃ x27,r1[v22]?=some x27/\∃ x28,r1[v22]?=some x28/\((ba v6 x27.a).getD 0)<p1.length/\∃ x29,v20[((ba v6 x27.a).getD 0)]?=some x29/\((ba v6 x28.b).getD 0)<p1.length/\∃ x30,v20[((ba v6 x28.b).getD 0)]?=some x30/\al (α:=Bool) (fun k32=>((ba v6 x27.a).getD 0)<p1.length/\∃ x33,v20[((ba v6 x27.a).getD 0)]?=some x33/\((neN x33 (min x29 x30))=true->k32 true)/\((neN x33 (min x29 x30))=false->((ba v6 x28.b).getD 0)<p1.length/\∃ x34,v20[((ba v6 x28.b).getD 0)]?=some x34/\k32 (neN x34 (min x29 x30)))) (fun v31=>(v31=true->((ba v6 x27.a).getD 0)<p1.length/\∃ x35,v20[((ba v6 x27.a).getD 0)]?=some x35/\((ba v6 x28.b).getD 0)<p1.length/\∃ x36,(v20.set ((ba v6 x27.a).getD 0) (min x29 x30))[((ba v6 x28.b).getD 0)]?=some x36/\k26 (((v20.set ((ba v6 x27.a).getD 0) (min x29 x30)).set ((ba v6 x28.b).getD 0) (min x29 x30)),true))/\(v31=false->k26 (v20,v21)))) (fun (v24,v25)=>v22+1<2 ^ 63/\nx23 (v24,v25,(v22+1))))/\((ltN v22 r1.length)=false->nx19 (v20,v21))) (v17,false,0))/\(v18=false->k16 v17)) (v7,true)) (fun v15=>p1.length=v15.length/\K v15)))
theorem fX {p0:Circ}{p1:(List Flt)}{K:(List Nat)->Prop} (hm:bk p0 p1 K) {h0:Heap} (hB:HasB vars h0):∃ r,K r/\CallD Tryd.prog NG 8 ⟨[aw p0,(au 5 aC) p1]⟩ h0 ((au 1 i64) r) h0:=by
 unfold bk at hm
 refine fw Tryd.func8 hB (enc:=(au 1 i64)) (fun r=>gE (fun _=>ah.cons (PureV.flat rfl) ah.nil)) fun O=>?_;conv=>whnf
 refine gX ?_
 refine fz ?_;refine gX ?_
 refine ca (gB hm O.has) fun r1 hm=>?_;refine gX ?_
 (first|refine O.new ((rfl:anew _ _ _=some (.map (bg aC i64 ([]:List (Flt×Nat))),fun g=>.map (some g)))) fun g2 h O=>?_|refine O.gT ((rfl:anew _ _ _=some (.map (bg aC i64 ([]:List (Flt×Nat))),fun g=>.map (some g)))) fun g2 h O=>?_);refine gH ?_
 refine gX ?_
 refine O.mkL (enc:=i64) 8 1 0 hm fun g4 h O hm=>?_;refine gH ?_
 refine jn hm 89 [5,6,7] (fun s=>s) (fun (v6,v7) h=>Own vars h0 [((some g2),.map (bg aC i64 v6)),(sC g4 (flatC (v7.map i64)))] h) (fun (v6,v7)=>[]) (fun hm=>?_) ?_
 ·refine gX ?_
  refine lw 89 [1,5,6,7] (σ:=((List (Flt×Nat))×(List Nat)×Nat)) (fun s=>s) (fun (v9,v10,v11) h=>Own vars h0 [((some g2),.map (bg aC i64 v9)),(sC g4 (flatC (v10.map i64)))] h) (fun (v9,v10,v11)=>[(8,(i64 v11))]) (([]:List (Flt×Nat)),(List.replicate p1.length (0:Nat)),0) hm (O.sel [1,0] (by decide)) ?_
  clear hm;rintro⟨v9,v10,v11⟩ nx12 base h hm O
  refine gX ?_
  refine br hm (fun hm=>?_) fun hm=>?_
  ·refine gX ?_
   refine atF hm fun x13 hx13 hm=>?_;refine gH ?_
   refine O.rR (ek:=aC) (ev:=i64) (m:=v9) (k:=x13) (v:=v11) (.head _) rfl rfl (by kernel_rfl) (lZ rfl) rfl rfl rfl fun h O=>?_;refine gX ?_
   refine ix 1 hm fun x14 hx14 hm=>?_;refine gH ?_
   refine O.stE 1 (.tail _ (.head _)) hx14 v11 fun h O=>?_;refine gX ?_
   refine bn hm fun hm=>?_;refine gH ?_
   exact jx ((fM v9 x13 v11),(v10.set v11 v11),(v11+1)) hm O
  ·refine gX ?_
   exact jx (v9,v10) hm O
 ·clear hm;rintro⟨v6,v7⟩ base h hm O
  conv=>whnf
  refine jn hm 89 [7] (fun s=>s) (fun v15 h=>Own vars h0 [(sC g4 (flatC (v15.map i64)))] h) (fun v15=>[]) (fun hm=>?_) ?_
  ·refine gX ?_
   refine lw 89 [5,6,7] (σ:=((List Nat)×Bool)) (fun s=>s) (fun (v17,v18) h=>Own vars h0 [((some g2),.map (bg aC i64 v6)),(sC g4 (flatC (v17.map i64)))] h) (fun (v17,v18)=>[(9,(.bool v18))]) (v7,true) hm O ?_
   clear hm;rintro⟨v17,v18⟩ nx19 base h hm O
   refine gX ?_
   refine br hm (fun hm=>?_) fun hm=>?_
   ·refine gX ?_
    refine lw 89 [5,6,7] (σ:=((List Nat)×Bool×Nat)) (fun s=>s) (fun (v20,v21,v22) h=>Own vars h0 [((some g2),.map (bg aC i64 v6)),(sC g4 (flatC (v20.map i64)))] h) (fun (v20,v21,v22)=>[(9,(.bool v21)),(10,(i64 v22))]) (v17,false,0) hm O ?_
    clear hm;rintro⟨v20,v21,v22⟩ nx23 base h hm O
    refine gX ?_
    refine br hm (fun hm=>?_) fun hm=>?_
    ·apply Cs;conv=>whnf
     refine jn hm 89 [5,6,7,10] (fun s=>s) (fun (v24,v25) h=>Own vars h0 [((some g2),.map (bg aC i64 v6)),(sC g4 (flatC (v24.map i64)))] h) (fun (v24,v25)=>[(9,(.bool v25))]) (fun hm=>?_) ?_
     ·refine gX ?_
      refine atF hm fun x27 hx27 hm=>?_;refine gH ?_
      refine iV rfl ?_;refine gH ?_
      refine⟨_,rL (ek:=aC) (ev:=i64) (m:=v6) (k:=x27.a) (z:=0) rfl rfl rfl (by kernel_rfl) (by kernel_rfl) (lZ rfl) (O.at (.head _)) rfl rfl,?_⟩;refine gX ?_
      refine atF hm fun x28 hx28 hm=>?_;refine gH ?_
      refine iV rfl ?_;refine gH ?_
      refine⟨_,rL (ek:=aC) (ev:=i64) (m:=v6) (k:=x28.b) (z:=0) rfl rfl rfl (by kernel_rfl) (by kernel_rfl) (lZ rfl) (O.at (.head _)) rfl rfl,?_⟩;refine gX ?_
      refine ix 1 hm fun x29 hx29 hm=>?_;refine gH ?_
      refine⟨_,bb rfl (O.at (.tail _ (.head _))) rfl (fh (enc:=i64) (s:=1) (k:=0) (fun _=>rfl) hx29 rfl),?_⟩;refine gH ?_
      refine ix 1 hm fun x30 hx30 hm=>?_;refine gH ?_
      refine⟨_,bb rfl (O.at (.tail _ (.head _))) rfl (fh (enc:=i64) (s:=1) (k:=0) (fun _=>rfl) hx30 rfl),?_⟩;refine gH ?_
      refine⟨_,Bp (a:=x29) (b:=x30) rfl rfl,?_⟩;refine gH ?_
      refine jn hm 89 [5,6,7,9,10,11,12,13] (fun s=>s) (fun v31 h=>Own vars h0 [((some g2),.map (bg aC i64 v6)),(sC g4 (flatC (v20.map i64)))] h) (fun v31=>[(79,(.bool v31))]) (fun hm=>?_) ?_
      ·refine gX ?_
       refine ix 1 hm fun x33 hx33 hm=>?_;refine gH ?_
       refine ldE (s:=1) (i:=0) (O.at (.tail _ (.head _))) hx33 ?_;refine gH ?_
       refine br hm (fun hm=>?_) fun hm=>?_
       ·refine gX ?_
        exact jx true hm O
       ·refine gX ?_
        refine ix 1 hm fun x34 hx34 hm=>?_;refine gH ?_
        refine ldE (s:=1) (i:=0) (O.at (.tail _ (.head _))) hx34 ?_;refine gH ?_
        exact jx (neN x34 (min x29 x30)) hm O
      ·clear hm;rintro v31 base h hm O
       refine gX ?_
       refine br hm (fun hm=>?_) fun hm=>?_
       ·refine gX ?_
        refine ix 1 hm fun x35 hx35 hm=>?_;refine gH ?_
        refine O.stE 1 (.tail _ (.head _)) hx35 (min x29 x30) fun h O=>?_;refine gX ?_
        refine ix 1 hm fun x36 hx36 hm=>?_;refine gH ?_
        refine O.stE 1 (.tail _ (.head _)) hx36 (min x29 x30) fun h O=>?_;refine gH ?_
        exact jx (((v20.set ((ba v6 x27.a).getD 0) (min x29 x30)).set ((ba v6 x28.b).getD 0) (min x29 x30)),true) hm O
       ·refine gX ?_
        exact jx (v20,v21) hm O
     ·clear hm;rintro⟨v24,v25⟩ base h hm O
      refine gX ?_
      refine bn hm fun hm=>?_;refine gH ?_
      exact jx (v24,v25,(v22+1)) hm O
    ·refine gX ?_
     exact jx (v20,v21) hm O
   ·refine gX ?_
    exact jx v17 hm (O.sel [1] (by decide))
  ·clear hm;rintro v15 base h hm O
   refine gX ?_
   obtain⟨hn37,hm⟩:=hm
   exact⟨v15,hm,O.ext,fun h2 F=>O.jO F (Nat.le_refl _) (.head _) (fun _=>rfl) hn37⟩
def aZ (p0:CData) (K:Bool->Prop):Prop :=
 bQ p0 (fun r1=>bw r1.1 r1.2 (fun r4=>al (α:=Bool) (fun k6=>((neN r4.2 0)=true->k6 true)/\((neN r4.2 0)=false->((eqN r1.2.length 0)=true->k6 true)/\((eqN r1.2.length 0)=false->k6 (eqN r4.1.length 0)))) (fun v5=>(v5=true->K false)/\(v5=false->bk r1.1 r1.2 (fun r7=>al (α:=Unit) (fun k8=>aI (S:=Nat) (fun v9 nx10=>((ltN v9 r4.1.length)=true->al (α:=Unit) (fun k11=>aI (S:=Nat) (fun v12 nx13=>∃ x14,r4.1[v9]?=some x14/\((ltN v12 x14.length)=true->al (α:=Bool) (fun k16=>∃ x17,r4.1[v9]?=some x17/\∃ x18,x17[v12]?=some x18/\((ltN x18 0)=true->k16 true)/\((ltN x18 0)=false->∃ x19,r4.1[v9]?=some x19/\∃ x20,x19[v12]?=some x20/\((!ltN x20 r1.2.length)=true->k16 true)/\((!ltN x20 r1.2.length)=false->∃ x21,r4.1[v9]?=some x21/\∃ x22,x21[v12]?=some x22/\∃ x23,r7[x22]?=some x23/\∃ x24,r4.1[v9]?=some x24/\∃ x25,x24[0]?=some x25/\k16 (neN x23 x25)))) (fun v15=>(v15=true->K false)/\(v15=false->v12+1<2 ^ 63/\nx13 (v12+1))))/\((ltN v12 x14.length)=false->k11 ())) 0) (fun _=>v9+1<2 ^ 63/\nx10 (v9+1)))/\((ltN v9 r4.1.length)=false->k8 ())) 0) (fun _=>bA  (fun r26=>K r26)))))))
theorem dR {p0:CData}{K:Bool->Prop} (hm:aZ p0 K) {h0:Heap} (hB:HasB vars h0):∃ r,K r/\CallD Tryd.prog NG 3 ⟨[bm p0]⟩ h0 (Value.bool r) h0:=by
 unfold aZ at hm
 refine fw Tryd.func3 hB (enc:=Value.bool) (fun r=>PureV.flat rfl) fun O=>?_;conv=>whnf
 refine gX ?_
 refine fz ?_;refine gX ?_
 refine ca (hZ hm O.has) fun r1 hm=>?_;refine gH ?_
 (first|refine O.new (ak (l:=[nS,nS,nS,nS]) rfl rfl rfl) fun g2 h O=>?_|refine O.gT (ak (l:=[nS,nS,nS,nS]) rfl rfl rfl) fun g2 h O=>?_);refine gH ?_
 refine O.stC 4 (.head _) [((au 4 ai) r1.1.nodes),((au 1 Value.string) r1.1.names),((au 3 aJ) r1.1.mems),((au 1 i64) r1.1.outs)] fun h O=>?_;refine gX ?_
 refine ldA (O.at (.head _)) ?_;refine gH ?_
 refine ca (eA hm O.has) fun r4 hm=>?_;refine gH ?_
 apply Cs;conv=>whnf
 refine jn hm 91 [3,4,5] (fun s=>s) (fun v5 h=>Own vars h0 [(sC g2 [((au 4 ai) r1.1.nodes),((au 1 Value.string) r1.1.names),((au 3 aJ) r1.1.mems),((au 1 i64) r1.1.outs)])] h) (fun v5=>[(32,(.bool v5))]) (fun hm=>?_) ?_
 ·refine gX ?_
  refine br hm (fun hm=>?_) fun hm=>?_
  ·refine gX ?_
   refine bt ?_;refine gH ?_
   exact jx true hm O
  ·refine gX ?_
   refine br hm (fun hm=>?_) fun hm=>?_
   ·refine gX ?_
    exact jx true hm O
   ·refine gX ?_
    refine lmC ?_;refine gH ?_
    exact jx (eqN r4.1.length 0) hm O
 ·clear hm;rintro v5 base h hm O
  refine gX ?_
  refine br hm (fun hm=>?_) fun hm=>?_
  ·refine gX ?_
   exact fe hm O
  ·refine gX ?_
   refine ldA (O.at (.head _)) ?_;refine gH ?_
   refine ca (fX hm O.has) fun r7 hm=>?_;refine gH ?_
   refine jn hm 91 [] (fun s=>s) (fun _ h=>Own vars h0 [] h) (fun _=>[]) (fun hm=>?_) ?_
   ·refine gX ?_
    refine lw 91 [4,5,7] (σ:=Nat) (fun s=>s) (fun v9 h=>Own vars h0 [] h) (fun v9=>[(8,(i64 v9))]) 0 hm (O.sel [] (by decide)) ?_
    clear hm;rintro v9 nx10 base h hm O
    refine gX ?_
    refine lmC ?_;refine gX ?_
    refine br hm (fun hm=>?_) fun hm=>?_
    ·apply Cs;conv=>whnf
     refine jn hm 91 [4,5,7,8] (fun s=>s) (fun _ h=>Own vars h0 [] h) (fun _=>[]) (fun hm=>?_) ?_
     ·refine gX ?_
      refine lw 91 [4,5,7,8] (σ:=Nat) (fun s=>s) (fun v12 h=>Own vars h0 [] h) (fun v12=>[(9,(i64 v12))]) 0 hm O ?_
      clear hm;rintro v12 nx13 base h hm O
      refine gX ?_
      refine atC hm fun x14 hx14 hm=>?_;refine gH ?_
      refine lmC ?_;refine gX ?_
      refine br hm (fun hm=>?_) fun hm=>?_
      ·apply Cs;conv=>whnf
       apply Cs;conv=>whnf
       apply Cs;conv=>whnf
       refine jn hm 91 [4,5,7,8,9] (fun s=>s) (fun v15 h=>Own vars h0 [] h) (fun v15=>[(89,(.bool v15))]) (fun hm=>?_) ?_
       ·refine gX ?_
        refine atC hm fun x17 hx17 hm=>?_;refine gH ?_
        refine dF ?_
        refine gX ?_
        refine atC hm fun x18 hx18 hm=>?_;refine gH ?_
        refine br hm (fun hm=>?_) fun hm=>?_
        ·refine gX ?_
         refine bt ?_;refine gH ?_
         exact jx true hm O
        ·refine gX ?_
         refine atC hm fun x19 hx19 hm=>?_;refine gH ?_
         refine dF ?_
         refine gX ?_
         refine atC hm fun x20 hx20 hm=>?_;refine gH ?_
         refine br hm (fun hm=>?_) fun hm=>?_
         ·refine gX ?_
          exact jx true hm O
         ·refine gX ?_
          refine atC hm fun x21 hx21 hm=>?_;refine gH ?_
          refine dF ?_
          refine gX ?_
          refine atC hm fun x22 hx22 hm=>?_;refine gH ?_
          refine atF hm fun x23 hx23 hm=>?_;refine gH ?_
          refine atC hm fun x24 hx24 hm=>?_;refine gH ?_
          refine dF ?_
          refine gX ?_
          refine atC hm fun x25 hx25 hm=>?_;refine gH ?_
          exact jx (neN x23 x25) hm O
       ·clear hm;rintro v15 base h hm O
        refine gX ?_
        refine br hm (fun hm=>?_) fun hm=>?_
        ·refine gX ?_
         exact fe hm O
        ·refine gX ?_
         refine bn hm fun hm=>?_;refine gH ?_
         exact jx (v12+1) hm O
      ·refine gX ?_
       exact jx () hm O
     ·clear hm;rintro _ base h hm O
      refine gX ?_
      refine bn hm fun hm=>?_;refine gH ?_
      exact jx (v9+1) hm O
    ·refine gX ?_
     exact jx () hm O
   ·clear hm;rintro _ base h hm O
    refine gX ?_
    refine ca (gC hm O.has) fun r26 hm=>?_;refine gX ?_
    exact fe hm O
def RtN (ps:List Nat):Nat->Nat->Nat->Prop
 |0,i,r=>ps[i]?=some i/\i=r
 |n+1,i,r=>∃ j,ps[i]?=some j/\j≠i/\RtN ps n j r
theorem RtN.uniq {ps:List Nat}:∀ {n i r m s},RtN ps n i r->RtN ps m i s->n=m/\r=s
 |0,i,r,0,s,h,g=>⟨rfl,h.2.symm.trans g.2⟩
 |0,i,r,m+1,s,h,g=>by
  obtain⟨j,g1,g2,_⟩:=g
  rw[h.1] at g1;exact absurd (Option.some.inj g1).symm g2
 |n+1,i,r,0,s,h,g=>by
  obtain⟨j,g1,g2,_⟩:=h
  rw[g.1] at g1;exact absurd (Option.some.inj g1).symm g2
 |n+1,i,r,m+1,s,h,g=>by
  obtain⟨j,h1,_,h3⟩:=h
  obtain⟨k,g1,_,g3⟩:=g
  rw[h1] at g1;cases g1
  obtain⟨rfl,rfl⟩:=RtN.uniq h3 g3
  exact⟨rfl,rfl⟩
theorem RtN.root {ps:List Nat}:∀ {n i r},RtN ps n i r->ps[r]?=some r
 |0,_,_,h=>h.2 ▸ h.1
 |_+1,_,_,⟨_,_,_,h⟩=>RtN.root h
theorem RtN.sh {ps:List Nat}{i j k:Nat} (hi:ps[i]?=some j) (hj:ps[j]?=some k) (hne:j≠i):∀ {n x r},RtN ps n x r->∃ m,m<=n/\RtN (ps.set i k) m x r:=by
 have hlt:i<ps.length:=(List.getElem?_eq_some_iff.1 hi).1
 intro n
 induction n using Nat.strongRecOn with
 |_ n ih =>
  intro x r h
  match n,h with
  |0,h =>
   refine⟨0,Nat.le_refl _,?_,h.2⟩
   rw[List.getElem?_set_ne,h.1]
   rintro rfl
   rw[h.1] at hi;exact hne (Option.some.inj hi).symm
  |n+1,⟨y,h1,h2,h3⟩ =>
   by_cases c:i=x
   ·subst c
    rw[hi] at h1;cases h1
    match n,h3 with
    |0,h3 =>
     rw[h3.1] at hj;cases hj
     obtain⟨m,_,hm⟩:=ih 0 (by omega) h3
     obtain⟨rfl,e⟩:m=0/\r=r:=by
      refine⟨?_,rfl⟩
      omega
     exact⟨1,by omega,j,by rw[List.getElem?_set_self hlt],hne,hm⟩
    |n+1,⟨k',g1,g2,g3⟩ =>
     rw[hj] at g1;cases g1
     have hk:k≠i:=by
      rintro rfl
      have:=(RtN.uniq g3 (show RtN ps (n+2) k r from⟨j,hi,hne,k,hj,g2,g3⟩)).1
      omega
     obtain⟨m,hm1,hm⟩:=ih n (by omega) g3
     exact⟨m+1,by omega,k,by rw[List.getElem?_set_self hlt],hk,hm⟩
   ·obtain⟨m,hm1,hm⟩:=ih n (by omega) h3
    exact⟨m+1,by omega,y,by rw[List.getElem?_set_ne c,h1],h2,hm⟩
def Rt (ps:List Nat) (i r:Nat):Prop:=∃ n,RtN ps n i r
theorem Rt.uniq {ps:List Nat}{i r s:Nat} (h:Rt ps i r) (g:Rt ps i s):r=s:=by
 obtain⟨n,h⟩:=h
 obtain⟨m,g⟩:=g
 exact (RtN.uniq h g).2
theorem Rt.root {ps:List Nat}{i r:Nat} (h:Rt ps i r):ps[r]?=some r:=by
 obtain⟨n,h⟩:=h
 exact h.root
theorem Rt.self {ps:List Nat}{r:Nat} (h:ps[r]?=some r):Rt ps r r:=⟨0,h,rfl⟩
theorem Rt.lt {ps:List Nat}{i r:Nat} (h:Rt ps i r):r<ps.length:=(List.getElem?_eq_some_iff.1 h.root).1
theorem Rt.lt1 {ps:List Nat}{i r:Nat}:Rt ps i r->i<ps.length
 |⟨0,h⟩=>(List.getElem?_eq_some_iff.1 h.1).1
 |⟨_+1,_,h,_⟩=>(List.getElem?_eq_some_iff.1 h).1
def Fo (ps:List Nat):Prop:=∀ i,i<ps.length->∃ r,Rt ps i r
structure SameR (ps qs:List Nat):Prop where
 len:qs.length=ps.length
 rt:∀ i r,Rt ps i r->Rt qs i r
theorem SameR.refl (ps:List Nat):SameR ps ps:=⟨rfl,fun _ _ h=>h⟩
theorem SameR.trans {a b d:List Nat} (h:SameR a b) (g:SameR b d):SameR a d:=⟨g.len.trans h.len,fun i r q=>g.rt i r (h.rt i r q)⟩
theorem SameR.fo {ps qs:List Nat} (h:SameR ps qs) (F:Fo ps):Fo qs:=fun i hi=>by
 obtain⟨r,hr⟩:=F i (h.len ▸ hi)
 exact⟨r,h.rt i r hr⟩
theorem SameR.back {ps qs:List Nat} (h:SameR ps qs) (F:Fo ps) {i r:Nat} (g:Rt qs i r):Rt ps i r:=by
 obtain⟨s,hs⟩:=F i (h.len ▸ g.lt1)
 have:=(h.rt i s hs).uniq g
 exact this ▸ hs
theorem SameR.sh {ps:List Nat}{i j k:Nat} (hi:ps[i]?=some j) (hj:ps[j]?=some k) (hne:j≠i):SameR ps (ps.set i k) :=
 ⟨List.length_set ..,fun x r ⟨n,h⟩=>by
  obtain⟨m,_,hm⟩:=RtN.sh hi hj hne h
  exact⟨m,hm⟩⟩
theorem RtN.link {ps:List Nat}{a b:Nat} (ha:ps[a]?=some a) (hb:ps[b]?=some b) (hne:a≠b):∀ {n i r},RtN ps n i r->Rt (ps.set a b) i (if r=a then b else r)
 |0,i,r,h=>by
  obtain⟨h1,rfl⟩:=h
  have hl:a<ps.length:=(List.getElem?_eq_some_iff.1 ha).1
  by_cases c:i=a
  ·subst c
   rw[if_pos rfl]
   exact⟨1,b,by rw[List.getElem?_set_self hl],fun e=>hne e.symm,by rw[List.getElem?_set_ne hne,hb],rfl⟩
  ·rw[if_neg c]
   exact Rt.self (by rw[List.getElem?_set_ne (fun e=>c e.symm),h1])
 |n+1,i,r,⟨j,h1,h2,h3⟩=>by
  obtain⟨m,hm⟩:=RtN.link ha hb hne h3
  have c:a≠i:=by
   rintro rfl
   rw[ha] at h1;exact h2 (Option.some.inj h1).symm
  exact⟨m+1,j,by rw[List.getElem?_set_ne c,h1],h2,hm⟩
theorem Rt.link {ps:List Nat}{a b:Nat} (ha:ps[a]?=some a) (hb:ps[b]?=some b) {i r:Nat} (h:Rt ps i r):Rt (ps.set a b) i (if r=a then b else r):=by
 by_cases c:a=b
 ·subst c
  have hl:a<ps.length:=(List.getElem?_eq_some_iff.1 ha).1
  have e:ps.set a a=ps:=by
   apply List.ext_getElem?
   intro j
   by_cases q:a=j
   ·subst q;rw[List.getElem?_set_self hl,ha]
   ·rw[List.getElem?_set_ne q]
  rw[e]
  split
  ·rename_i q;exact q ▸ h
  ·exact h
 ·obtain⟨n,h⟩:=h
  exact h.link ha hb c
inductive Cn {α:Type} (E:α->α->Prop):α->α->Prop
 |refl (a:α):Cn E a a
 |fwd {a b d:α}:E a b->Cn E b d->Cn E a d
 |bwd {a b d:α}:E b a->Cn E b d->Cn E a d
theorem Cn.trans {α:Type}{E:α->α->Prop}{a b d:α} (h:Cn E a b) (g:Cn E b d):Cn E a d:=by
 induction h with
 |refl=>exact g
 |fwd e _ ih=>exact .fwd e (ih g)
 |bwd e _ ih=>exact .bwd e (ih g)
theorem Cn.one {α:Type}{E:α->α->Prop}{a b:α} (h:E a b):Cn E a b:=.fwd h (.refl _)
theorem Cn.symm {α:Type}{E:α->α->Prop}{a b:α} (h:Cn E a b):Cn E b a:=by
 induction h with
 |refl=>exact .refl _
 |fwd e _ ih=>exact ih.trans (.bwd e (.refl _))
 |bwd e _ ih=>exact ih.trans (.fwd e (.refl _))
theorem Cn.mono {α:Type}{E F:α->α->Prop} (hE:∀ a b,E a b->F a b) {a b:α} (h:Cn E a b):Cn F a b:=by
 induction h with
 |refl=>exact .refl _
 |fwd e _ ih=>exact .fwd (hE _ _ e) ih
 |bwd e _ ih=>exact .bwd (hE _ _ e) ih
theorem Cn.inv {α β:Type}{E:α->α->Prop}{f:α->β} (hE:∀ a b,E a b->f a=f b) {a b:α} (h:Cn E a b):f a=f b:=by
 induction h with
 |refl=>rfl
 |fwd e _ ih=>exact (hE _ _ e).trans ih
 |bwd e _ ih=>exact (hE _ _ e).symm.trans ih
theorem Cn.add {α:Type}{E:α->α->Prop}{x y a b:α} (h:Cn (fun u v=>E u v\/u=x/\v=y) a b):Cn E a b\/(Cn E a x\/Cn E a y)/\(Cn E b x\/Cn E b y):=by
 induction h with
 |refl=>exact .inl (.refl _)
 |fwd e _ ih =>
  rcases e with e|⟨rfl,rfl⟩
  ·rcases ih with ih|⟨h1,h2⟩
   ·exact .inl (.fwd e ih)
   ·exact .inr ⟨h1.imp (.fwd e) (.fwd e),h2⟩
  ·rcases ih with ih|⟨h1,h2⟩
   ·exact .inr ⟨.inl (.refl _),.inr ih.symm⟩
   ·exact .inr ⟨.inl (.refl _),h2⟩
 |bwd e _ ih =>
  rcases e with e|⟨rfl,rfl⟩
  ·rcases ih with ih|⟨h1,h2⟩
   ·exact .inl (.bwd e ih)
   ·exact .inr ⟨h1.imp (.bwd e) (.bwd e),h2⟩
  ·rcases ih with ih|⟨h1,h2⟩
   ·exact .inr ⟨.inr (.refl _),.inl ih.symm⟩
   ·exact .inr ⟨.inr (.refl _),h2⟩
structure UfI {α:Type} (V:α->Prop) (num:α->Nat) (E:α->α->Prop) (ps:List Nat) (np:Nat):Prop where
 len:ps.length=np
 fo:Fo ps
 lt:∀ a,V a->num a<np
 cn:∀ a b r s,V a->V b->Rt ps (num a) r->Rt ps (num b) s->(r=s↔Cn E a b)
theorem UfI.same {α:Type}{V:α->Prop}{num:α->Nat}{E:α->α->Prop}{ps qs:List Nat}{np:Nat} (U:UfI V num E ps np) (h:SameR ps qs):UfI V num E qs np :=
 ⟨h.len.trans U.len,h.fo U.fo,U.lt,fun a b r s ha hb h1 h2=>U.cn a b r s ha hb (h.back U.fo h1) (h.back U.fo h2)⟩
theorem UfI.join {α:Type}{V:α->Prop}{num:α->Nat}{E:α->α->Prop}{ps:List Nat}{np:Nat} (U:UfI V num E ps np) {x y:α} (hx:V x) (hy:V y) {rx ry:Nat} (h1:Rt ps (num x) rx) (h2:Rt ps (num y) ry) :
  UfI V num (fun u v=>E u v\/u=x/\v=y) (ps.set rx ry) np:=by
 have R:=@Rt.link ps rx ry h1.root h2.root
 refine⟨(List.length_set ..).trans U.len,fun i hi=>?_,U.lt,fun a b r s ha hb g1 g2=>?_⟩
 ·rw[List.length_set] at hi
  obtain⟨r,hr⟩:=U.fo i hi
  exact⟨_,R hr⟩
 ·obtain⟨r0,hr0⟩:=U.fo (num a) (U.len ▸ U.lt a ha)
  obtain⟨s0,hs0⟩:=U.fo (num b) (U.len ▸ U.lt b hb)
  have e1:=g1.uniq (R hr0)
  have e2:=g2.uniq (R hs0)
  have hE:∀ u v,Cn E u v->Cn (fun u v=>E u v\/u=x/\v=y) u v:=fun u v h=>h.mono fun _ _ h=>.inl h
  have hxy:Cn (fun u v=>E u v\/u=x/\v=y) x y:=.one (.inr ⟨rfl,rfl⟩)
  have ax:=U.cn a x r0 rx ha hx hr0 h1
  have ay:=U.cn a y r0 ry ha hy hr0 h2
  have bx:=U.cn b x s0 rx hb hx hs0 h1
  have by_:=U.cn b y s0 ry hb hy hs0 h2
  have ab:=U.cn a b r0 s0 ha hb hr0 hs0
  constructor
  ·intro e
   rw[e1,e2] at e
   by_cases c1:r0=rx
   ·by_cases c2:s0=rx
    ·exact hE _ _ (ab.1 (c1.trans c2.symm))
    ·rw[if_pos c1,if_neg c2] at e
     exact (hE _ _ (ax.1 c1)).trans (hxy.trans (hE _ _ (by_.1 e.symm)).symm)
   ·by_cases c2:s0=rx
    ·rw[if_neg c1,if_pos c2] at e
     exact (hE _ _ (ay.1 e)).trans (hxy.symm.trans (hE _ _ (bx.1 c2)).symm)
    ·rw[if_neg c1,if_neg c2] at e
     exact hE _ _ (ab.1 e)
  ·intro h
   rw[e1,e2]
   rcases h.add with h|⟨h1,h2⟩
   ·rw[ab.2 h]
   ·have key:∀ (z z0:Nat),(z=rx\/z=ry)->(if z=rx then ry else z)=ry:=by
     intro z _ h
     rcases h with rfl|rfl
     ·rw[if_pos rfl]
     ·split <;> rfl
    rw[key r0 0 (h1.imp ax.2 ay.2),key s0 0 (h2.imp bx.2 by_.2)]
def iM {α:Type} (down:α->Option α):Nat->α->α
 |0,a=>a
 |n+1,a=>match down a with|some b=>iM down n b|none=>a
theorem qX {α:Type}{down:α->Option α}:∀ n a,Cn (fun u v=>down u=some v) a (iM down n a)
 |0,a=>.refl _
 |n+1,a=>by
  rw[iM]
  cases h:down a with
  |none=>exact .refl _
  |some b=>exact .fwd h (qX n b)
theorem qB {α:Type}{down:α->Option α}{μ:α->Nat} (hμ:∀ a b,down a=some b->μ b<μ a):∀ n a m,μ a<=n->μ a<=m->iM down n a=iM down m a
 |0,a,m,h,_=>by
  have:down a=none:=by
   cases e:down a with
   |none=>rfl
   |some b=>have:=hμ a b e;omega
  cases m with
  |zero=>rfl
  |succ m=>rw[iM,iM,this]
 |n+1,a,0,_,h=>by
  have:down a=none:=by
   cases e:down a with
   |none=>rfl
   |some b=>have:=hμ a b e;omega
  rw[iM,iM,this]
 |n+1,a,m+1,h1,h2=>by
  rw[iM,iM]
  cases e:down a with
  |none=>rfl
  |some b=>have:=hμ a b e;exact qB hμ n b m (by omega) (by omega)
theorem qu {α:Type}{down:α->Option α}{μ:α->Nat} (hμ:∀ a b,down a=some b->μ b<μ a) {N:Nat}{a b:α} (hN:μ a<=N) (h:down a=some b):iM down N a=iM down N b:=by
 have:=hμ a b h
 cases N with
 |zero=>omega
 |succ N =>
  rw[iM,h]
  exact qB hμ N b (N+1) (by omega) (by omega)
theorem zV {α:Type}{down:α->Option α}{μ:α->Nat} (hμ:∀ a b,down a=some b->μ b<μ a) {N:Nat} (hN:∀ a,μ a<=N) {a b:α}:Cn (fun u v=>down u=some v) a b↔iM down N a=iM down N b:=by
 constructor
 ·exact Cn.inv fun u v h=>qu hμ (hN u) h
 ·intro e
  have h1:=qX (down:=down) N a
  rw[e] at h1
  exact h1.trans (qX N b).symm
theorem cM {α:Type}{first:(α->Prop)->Prop}{rest:α->Prop} (P:α->Prop) (h1:∀ k,(∀ a,P a->k a)->first k) (h2:∀ a,P a->rest a):al first rest:=h1 rest h2
theorem jC {α:Type}{a:α}{first:(α->Prop)->Prop}{rest:α->Prop} (h1:rest a->first rest) (h2:rest a):al first rest:=h1 h2
def Bo (e d:Nat):Nat:=if e=0 then 3 else if e=1 then min d 2 else 2
def zX (v:Nat):Nat:=if 3<v then 2 else v
def Bt (l:List Nat):Option Nat:=l.findIdx? fun v=>v != 3
def Bj (l:List Nat):Nat:=match Bt l with
 |none=>3
 |some i=>if (l.contains 0&&l.contains 1)||l.any (fun v=>zX v==2) then 2 else l.getD i 0
def Ba (k:Nat) (l:List Nat):Nat:=if k=12 then Bo (l.getD 0 0) (l.getD 1 0) else if k=13 then Bj l else AK k l
theorem yc (i:Nat):(!ltI (Int.ofNat i) (Int.ofNat 0))=true:=by
 have:ltI (Int.ofNat i) (Int.ofNat 0)=false:=uF.2 (Int.natCast_nonneg i)
 rw[this];rfl
structure GK (ks:List Nat) (x:Node):Prop where
 kind1:1<=x.kind
 kind:x.kind<=13
 arity:Arity x.kind x.ins.length
 ins:∀ k∈x.ins,k<ks.length
 bus:x.kind=13->∀ k∈x.ins,ks.getD k 0=12
 mem:x.mem=0
 bit:x.bit=0
theorem kx (ks:List Nat):∀ (i:Nat) (t:Nat),t∈ck ks i->t<i/\ks.getD t 0=12
 |0,t,h=>by unfold ck at h;cases h
 |i+1,t,h=>by
  unfold ck at h
  split at h
  ·rename_i e
   rcases List.mem_append.1 h with h|h
   ·have:=kx ks i t h;exact⟨by omega,this.2⟩
   ·rw[List.mem_singleton] at h;subst h;exact⟨by omega,e⟩
  ·have:=kx ks i t h;exact⟨by omega,this.2⟩
theorem sI {l:List Nat}{i:Nat} (h:i<l.length):l.getD i 0∈l:=by
 rw[List.getD,List.getElem?_eq_getElem h]
 exact List.getElem_mem h
theorem pK:∀ kk,kk<6->Arity (5+kk) 2/\Arity (5+kk) 3:=by decide
theorem tz (bus:Bool) (g:GData) {ks:List Nat} (hn:0<ks.length):GK ks (fx bus g ks):=by
 have ha:=Nat.mod_lt g.a hn
 have hb:=Nat.mod_lt g.b hn
 have hd:=Nat.mod_lt g.d hn
 have hkk:(if bus then g.kind%13 else g.kind%9)<13:=by
  split
  ·exact Nat.mod_lt _ (by decide)
  ·exact Nat.lt_trans (Nat.mod_lt _ (by decide)) (by decide)
 unfold fx
 generalize (if bus then g.kind%13 else g.kind%9)=kk at hkk
 by_cases c1:kk<6
 ·rw[if_pos c1]
  by_cases c2:128<=g.kind
  ·rw[if_pos c2]
   refine⟨by dsimp only;omega,by dsimp only;omega,?_,?_,fun e=>by dsimp only at e;omega,rfl,rfl⟩
   ·exact (pK kk c1).2
   ·intro k m
    simp only[List.mem_cons,List.not_mem_nil,or_false] at m
    rcases m with rfl|rfl|rfl <;> assumption
  ·rw[if_neg c2]
   refine⟨by dsimp only;omega,by dsimp only;omega,?_,?_,fun e=>by dsimp only at e;omega,rfl,rfl⟩
   ·exact (pK kk c1).1
   ·intro k m
    simp only[List.mem_cons,List.not_mem_nil,or_false] at m
    rcases m with rfl|rfl <;> assumption
 rw[if_neg c1]
 by_cases c2:kk=6
 ·rw[if_pos c2]
  exact⟨(by decide:1<=4),(by decide:4<=13),(by decide:Arity 4 1),fun k m=>by simp only[List.mem_cons,List.not_mem_nil,or_false] at m;subst m;exact ha,(fun e=>by cases e),rfl,rfl⟩
 rw[if_neg c2]
 by_cases c3:kk=7
 ·rw[if_pos c3]
  refine⟨(by decide:1<=11),(by decide:11<=13),(by decide:Arity 11 3),fun k m=>?_,(fun e=>by cases e),rfl,rfl⟩
  simp only[List.mem_cons,List.not_mem_nil,or_false] at m
  rcases m with rfl|rfl|rfl <;> assumption
 rw[if_neg c3]
 by_cases c4:kk=9\/kk=10
 ·rw[if_pos c4]
  refine⟨(by decide:1<=12),(by decide:12<=13),(by decide:Arity 12 2),fun k m=>?_,(fun e=>by cases e),rfl,rfl⟩
  simp only[List.mem_cons,List.not_mem_nil,or_false] at m
  rcases m with rfl|rfl <;> assumption
 rw[if_neg c4]
 by_cases c5:10<kk/\0<(ck ks ks.length).length
 ·rw[if_pos c5]
  have h1:=kx ks ks.length _ (sI (Nat.mod_lt g.a c5.2))
  have h2:=kx ks ks.length _ (sI (Nat.mod_lt (g.a%(ck ks ks.length).length+1) c5.2))
  by_cases c6:1<(ck ks ks.length).length
  ·rw[if_pos c6]
   refine⟨(by decide:1<=13),(by decide:13<=13),(by decide:Arity 13 2),fun k m=>?_,fun _ k m=>?_,rfl,rfl⟩ <;>
   ·simp only[List.mem_cons,List.not_mem_nil,or_false] at m
    rcases m with rfl|rfl
    ·first|exact h1.1|exact h1.2
    ·first|exact h2.1|exact h2.2
  ·rw[if_neg c6]
   refine⟨(by decide:1<=13),(by decide:13<=13),(by decide:Arity 13 1),fun k m=>?_,fun _ k m=>?_,rfl,rfl⟩ <;>
   ·simp only[List.mem_cons,List.not_mem_nil,or_false] at m
    subst m
    first|exact h1.1|exact h1.2
 rw[if_neg c5]
 by_cases c7:240<g.kind
 ·rw[if_pos c7]
  have:g.a%2=0\/g.a%2=1:=by omega
  rcases this with e|e <;> rw[e]
  ·exact⟨(by decide:1<=1),(by decide:1<=13),(by decide:Arity 1 0),(fun k m=>by cases m),(fun _ k m=>by cases m),rfl,rfl⟩
  ·exact⟨(by decide:1<=2),(by decide:2<=13),(by decide:Arity 2 0),(fun k m=>by cases m),(fun _ k m=>by cases m),rfl,rfl⟩
 ·rw[if_neg c7]
  exact⟨(by decide:1<=3),(by decide:3<=13),(by decide:Arity 3 1),fun k m=>by simp only[List.mem_cons,List.not_mem_nil,or_false] at m;subst m;exact ha,(fun e=>by cases e),rfl,rfl⟩
theorem nF (bus:Bool) (gs:List GData) (base:List Node) (hb:0<base.length):∀ m,m<=gs.length->∀ (i:Nat) (y:Node),(dc bus gs base m)[i]?=some y ->
  (i<base.length/\base[i]?=some y)\/(base.length<=i/\∃ g,y=fx bus g (((dc bus gs base m).take i).map Node.kind))
 |0,_,i,y,h=>.inl ⟨ag h,h⟩
 |m+1,hm,i,y,h=>by
  have hg:gs[m]?=some gs[m]:=List.getElem?_eq_getElem (by omega)
  have hl:=dL bus gs base m (by omega)
  rw[jQ hg] at h ⊢
  by_cases c:i<(dc bus gs base m).length
  ·rw[List.getElem?_append_left c] at h
   rcases nF bus gs base hb m (by omega) i y h with q|⟨q1,g,q2⟩
   ·exact .inl q
   ·refine .inr ⟨q1,g,?_⟩
    rw[List.take_append_of_le_length (by omega)]
    exact q2
  ·have hi:i=(dc bus gs base m).length:=by
    have:=ag h
    rw[List.length_append,List.length_singleton] at this
    omega
   subst hi
   rw[List.getElem?_append_right (Nat.le_refl _),Nat.sub_self] at h
   cases h
   refine .inr ⟨by omega,gs[m],?_⟩
   rw[List.take_left']
   rfl
theorem qY {first:Nat}{d:Nat->Nat}{ns:List Node}{j:Nat}:∀ {m},j<m->first+m<=ns.length->(kG first d m ns)[first+j]?=some (lN (d j))
 |m+1,h,hl=>by
  rw[kG,List.getElem?_set]
  by_cases c:m=j
  ·subst c
   rw[if_pos rfl,if_pos (by rw[fj];omega)]
  ·rw[if_neg (by omega)]
   exact qY (by omega) (by omega)
theorem pt {first:Nat}{d:Nat->Nat}{ns:List Node}{j:Nat} (h:j<first):∀ m,(kG first d m ns)[j]?=ns[j]?
 |0=>rfl
 |m+1=>by rw[kG,List.getElem?_set_ne (by omega)];exact pt h m
def Ak (x:CData) (_i:Nat) (y:Node):Prop:=x.mem=true/\(y=vA 0\/y=vA 1)
theorem ov {x:CData}{i:Nat}{y:Node} (h:(eE x).nodes[i]?=some y) :
  (i<x.inp%4+1/\y=eM)\/(x.inp%4+1<=i/\i<x.inp%4+1+x.dffs%3/\∃ d,d<(cb x).length/\y=lN d)\/Ak x i y \/
  (x.inp%4+1+x.dffs%3<=i/\(cb x)[i]?=some y/\∃ g,y=fx x.bus g (((cb x).take i).map Node.kind)):=by
 have h:(kG (x.inp%4+1) (kL x (cb x).length) (x.dffs%3) (cb x))[i]?=some y:=h
 have hbl:=dZ x.inp x.dffs x.mem
 have hrl:=ff x
 have hbase:∀ i,i<x.inp%4+1->(ee x.inp x.dffs x.mem)[i]?=some eM:=fun i hi=>by
  unfold ee
  rw[List.append_assoc,List.getElem?_append_left (by rw[List.length_replicate];exact hi),List.getElem?_replicate,if_pos hi]
 by_cases c1:i<x.inp%4+1
 ·rw[pt c1] at h
  unfold cb at h
  rw[lj _ _ _ (by omega) _ (Nat.min_le_left _ _),hbase i c1] at h
  cases h
  exact .inl ⟨c1,rfl⟩
 ·by_cases c2:i<x.inp%4+1+x.dffs%3
  ·have e:i=x.inp%4+1+(i-(x.inp%4+1)):=by omega
   rw[e,qY (by omega) (by omega)] at h
   cases h
   exact .inr (.inl ⟨by omega,c2,_,Nat.mod_lt _ (mN x),rfl⟩)
  ·rw[lS (by omega)] at h
   rcases nF x.bus x.gates (ee x.inp x.dffs x.mem) (by omega) _ (Nat.min_le_left _ 8) i y h with⟨q,e⟩|⟨_,g,q⟩
   ·refine .inr (.inr (.inl ?_))
    unfold ee at e
    rw[List.getElem?_append_right (by simp only[List.length_append,List.length_replicate];omega)] at e
    cases hm:x.mem
    ·rw[hm] at e;simp at e
    ·rw[hm] at e
     simp only[if_true] at e
     refine⟨hm,?_⟩
     have hme:=List.mem_of_getElem? e
     simpa using hme
   ·exact .inr (.inr (.inr ⟨by omega,h,g,q⟩))
theorem vS {x:CData} (hm:x.mem=false) {i:Nat}{y:Node} (h:(eE x).nodes[i]?=some y) :
  (i<x.inp%4+1/\y=eM)\/(x.inp%4+1<=i/\i<x.inp%4+1+x.dffs%3/\∃ d,d<(cb x).length/\y=lN d) \/
  (x.inp%4+1+x.dffs%3<=i/\(cb x)[i]?=some y/\∃ g,y=fx x.bus g (((cb x).take i).map Node.kind)):=by
 rcases ov h with q|q|q|q
 ·exact .inl q
 ·exact .inr (.inl q)
 ·have:=q.1;rw[hm] at this;cases this
 ·exact .inr (.inr q)
theorem tI (x:CData) (k:Nat):(((eE x).nodes).map Node.kind).getD k 0=((cb x).map Node.kind).getD k 0:=by
 have hrl:=ff x
 show ((kG (x.inp%4+1) (kL x (cb x).length) (x.dffs%3) (cb x)).map Node.kind).getD k 0=_
 rw[List.getD,List.getD,List.getElem?_map,List.getElem?_map]
 by_cases c1:k<x.inp%4+1
 ·rw[pt c1]
 ·by_cases c2:k<x.inp%4+1+x.dffs%3
  ·have e:k=x.inp%4+1+(k-(x.inp%4+1)):=by omega
   rw[e,qY (by omega) (by omega),sE (by omega)]
   rfl
  ·rw[lS (by omega)]
theorem kp (x:CData):(eE x).mems=if x.mem then [⟨[x.port0%(cb x).length],[x.port1%(cb x).length,x.port2%(cb x).length],x.port3%(cb x).length⟩] else []:=rfl
theorem uh (x:CData):Good (eE x):=by
 have hle:=vn x
 have hpos:=mN x
 have hn:(eE x).nodes.length=(cb x).length:=fj _
 have node:∀ (i:Nat) (y:Node),(eE x).nodes[i]?=some y->GoodN (eE x) i y:=by
  intro i y h
  have hi:=ag h
  rw[hn] at hi
  rcases ov h with⟨_,rfl⟩|⟨_,_,d,hd,rfl⟩|⟨hm,e⟩|⟨h1,h2,g,hg⟩
  ·exact⟨(by decide:0<=15),(by decide:Arity 0 0),(fun k m=>by cases m),(fun e=>by cases e),fun _=>⟨rfl,rfl⟩,(fun e=>by cases e),fun e=>absurd e (by decide:¬ 1<=0)⟩
  ·refine⟨(by decide:14<=15),(by decide:Arity 14 1),fun k m=>?_,(fun e=>by cases e),fun _=>⟨rfl,rfl⟩,(fun e=>by cases e),fun _ e=>absurd e (by decide:¬ 14<=13)⟩
   have:k=d:=by simpa[lN] using m
   rw[hn,this];exact hd
  ·have em:=kp x
   rw[hm] at em
   simp only[if_true] at em
   rcases e with rfl|rfl
   ·exact⟨(by decide:15<=15),(by decide:Arity 15 0),(fun k m=>by cases m),(fun e=>by cases e),fun e=>absurd rfl e,fun _=>⟨_,(by rw[em];rfl),by show (0:Nat)<2;decide⟩,fun _ e=>absurd e (by decide:¬ 15<=13)⟩
   ·exact⟨(by decide:15<=15),(by decide:Arity 15 0),(fun k m=>by cases m),(fun e=>by cases e),fun e=>absurd rfl e,fun _=>⟨_,(by rw[em];rfl),by show (1:Nat)<2;decide⟩,fun _ e=>absurd e (by decide:¬ 15<=13)⟩
  ·have hks:(((cb x).take i).map Node.kind).length=i:=by rw[List.length_map,List.length_take];omega
   have G:=tz x.bus g (ks:=((cb x).take i).map Node.kind) (by omega)
   rw[<- hg] at G
   have lt:∀ k∈y.ins,k<i:=fun k m=>by have:=G.ins k m;omega
   refine⟨by have:=G.kind;omega,G.arity,fun k m=>by have:=lt k m;omega,fun e k m=>?_,fun _=>⟨G.mem,G.bit⟩,fun e=>by have:=G.kind;omega,fun _ _=>lt⟩
   have hk:=lt k m
   have hk2:k<(eE x).nodes.length:=by omega
   refine⟨_,List.getElem?_eq_getElem hk2,?_⟩
   have e1:=tI x k
   rw[List.getD,List.getElem?_map,List.getElem?_eq_getElem hk2] at e1
   have e2:=G.bus e k m
   rw[List.getD,List.getElem?_map,List.getElem?_take,if_pos hk] at e2
   rw[List.getD,List.getElem?_map,e2] at e1
   exact e1
 refine⟨by omega,by show ((List.range (cb x).length).map gZ).length=_;rw[hn];simp,ya (n:=(cb x).length) (by omega) rfl,xT ⟨by omega,fun i y h=>⟨(node i y h).ins,(node i y h).few⟩⟩,?_,?_,?_,?_,node,by rw[hn];exact hpos⟩
 ·intro m hme
  rw[kp] at hme
  split at hme
  ·rw[List.mem_singleton] at hme
   subst hme
   have lt:∀ a,a%(cb x).length<(eE x).nodes.length:=fun a=>by rw[hn];exact Nat.mod_lt _ hpos
   exact⟨(by decide:1<=1/\1<=8),(by decide:1<=2/\2<=32),fun k m=>by rw[List.mem_singleton.1 m];exact lt _,fun k m=>by simp only[List.mem_cons,List.not_mem_nil,or_false] at m;rcases m with rfl|rfl <;> exact lt _,lt _⟩
  ·cases hme
 ·rw[kp];split <;> simp
 ·intro o m
  have m:o∈(x.outs.take 3).map (· % (cb x).length)++[(cb x).length-1]:=m
  rw[hn]
  rcases List.mem_append.1 m with m|m
  ·obtain⟨q,_,rfl⟩:=List.mem_map.1 m
   exact Nat.mod_lt _ hpos
  ·rw[List.mem_singleton] at m;omega
 ·show ((x.outs.take 3).map (· % (cb x).length)++[(cb x).length-1]).length<=16
  rw[List.length_append,List.length_map,List.length_take,List.length_singleton];omega
theorem vN {x:CData} (_:x.mem=false):Good (eE x):=uh x
structure Cir (c:Circ):Prop where
 good:Good c
 mems:c.mems=[]
 kinds:∀ (i:Nat) (x:Node),c.nodes[i]?=some x->x.kind<=14
theorem Cir.len {c:Circ} (C:Cir c):c.nodes.length<=16:=C.good.len
structure PatOk (c:Circ) (p:Pat):Prop where
 inp:p.inp.length=(ofN c [0]).length
 state:p.state.length=(ofN c [14]).length
 inpv:∀ v∈p.inp,v<=3
 statev:∀ v∈p.state,v<=3
def combB (k:Nat):Bool:=decide (1<=k/\k<=13)
def AJ (pn:Nat->Nat->Nat->Nat) (t:List Nat) (m:Nat) (x:Node):List Nat:=x.ins.mapIdx fun j k=>pn m j (t.getD k 0)
def srcV (c:Circ) (p:Pat) (i:Nat):Nat:=if kd c i=0 then p.inp.getD ((ofN c [0]).idxOf i) 0 else if kd c i=14 then p.state.getD ((ofN c [14]).idxOf i) 0 else 0
def baseV (c:Circ) (p:Pat) (pn:Nat->Nat->Nat->Nat) (t:List Nat) (m:Nat) (x:Node):Nat:=if combB x.kind=true then Ba x.kind (AJ pn t m x) else srcV c p m
structure Sol (c:Circ) (p:Pat) (nt:Nat->Nat->Nat) (pn:Nat->Nat->Nat->Nat) (t:List Nat):Prop where
 len:t.length=c.nodes.length
 val:∀ i x,c.nodes[i]?=some x->t.getD i 0=nt i (baseV c p pn t i x)
 le:∀ i,t.getD i 0<=3
structure RunS (c:Circ) (p:Pat) (nt:Nat->Nat->Nat) (pn:Nat->Nat->Nat->Nat) (o t:List Nat) (i:Nat):Prop where
 len:t.length=c.nodes.length
 done:∀ j m x,j<i->o[j]?=some m->c.nodes[m]?=some x->t.getD m 0=nt m (baseV c p pn t m x)
 todo:∀ j m x,i<=j->o[j]?=some m->c.nodes[m]?=some x->combB x.kind=false->t.getD m 0=srcV c p m
 le:∀ i,t.getD i 0<=3
theorem bT {c:Circ}{i:Nat}{x:Node} (h:c.nodes[i]?=some x):insOf c i=x.ins:=by unfold insOf;rw[List.getD,List.getElem?_map,h];rfl
def Ap (c:Circ) (p:Pat) (nt:Nat->Nat->Nat) (pn:Nat->Nat->Nat->Nat):Nat->List Nat
 |0=>[]
 |i+1=>Ap c p nt pn i++[match c.nodes[i]? with|some x=>nt i (baseV c p pn (Ap c p nt pn i) i x) | none=>0]
def sol (c:Circ) (p:Pat) (nt:Nat->Nat->Nat) (pn:Nat->Nat->Nat->Nat):List Nat:=Ap c p nt pn c.nodes.length
structure StuckOk (c:Circ) (f:Flt):Prop where
 model:f.model=0
 value:f.value<=1
 other:f.other=0
 node:f.line.node<c.nodes.length
 pin1 : -1<=f.line.pin
 pin2:f.line.pin<Int.ofNat (insOf c f.line.node).length
theorem ti {c:Circ} (C:Cir c) {K:Nat->Prop} (h:K 0):ct c K:=by
 unfold ct
 refine xd C.good ⟨(fun q=>absurd rfl (eG.1 q)),fun _=>⟨fun q=>?_,fun _=>h⟩⟩
 have:=bp.1 q
 rw[C.mems] at this
 exact absurd this (Nat.not_lt_zero _)
theorem yT {c:Circ}{l:LnZ} (h1:l.node<c.nodes.length) (h2 : -1<=l.pin) (h3:l.pin<Int.ofNat (insOf c l.node).length) {K:Bool->Prop} (h:K true):dn c l K:=by
 unfold dn
 refine⟨fun _=>⟨fun _=>⟨fun _=>?_,fun q=>?_⟩,fun q=>?_⟩,fun q=>?_⟩
 ·obtain⟨x,hx⟩:=aP h1
  refine⟨x,hx,?_⟩
  rw[bT hx] at h3
  rw[zH.2 h3];exact h
 ·have:ltI l.pin (Int.negSucc 0)=true:=by revert q;cases ltI l.pin (Int.negSucc 0) <;> simp
  have:l.pin<Int.negSucc 0:=zH.1 this
  omega
 ·have:=bO.1 q;omega
 ·have:=mr.1 q;omega
theorem vv {c:Circ} (C:Cir c) {f:Flt} (F:StuckOk c f) {K:Nat->Prop} (h:K 0):faults_Check_wp c f K:=by
 unfold faults_Check_wp
 refine ti C ⟨(fun q=>absurd rfl (eG.1 q)),fun _=>?_⟩
 refine jC (a:=false) (fun G=>⟨fun q=>?_,fun _=>⟨fun q=>?_,fun _=>yT F.node F.pin1 F.pin2 G⟩⟩) ⟨(fun q=>by cases q),fun _=>⟨fun q=>?_,fun _=>⟨fun q=>?_,fun _=>h⟩⟩⟩
 ·have:=bp.1 q;have:=F.model;omega
 ·have:=bp.1 q;have:=F.value;omega
 ·have:=my.1 q;have:=F.model;omega
 ·exact absurd F.other (eG.1 q)
def Con (a b:Nat):Prop:=a<=1/\b<=1/\a≠b
instance (a b:Nat):Decidable (Con a b):=by unfold Con;infer_instance
theorem A9 {p:Nat->Bool}{i:Nat}:(List.range (i+1)).filter p=(List.range i).filter p++(if p i=true then [i] else []):=by
 rw[List.range_succ,List.filter_append]
 congr 1
 rw[List.filter_cons]
 split <;> rfl
theorem gU {α:Type}{l:List α}{i:Nat}{x:α} (h:l[i]?=some x):l.take (i+1)=l.take i++[x]:=by
 obtain⟨h1,rfl⟩:=List.getElem?_eq_some_iff.1 h
 exact List.take_succ_eq_append_getElem h1
def oQ (c:Circ) (i:Nat):List LnZ:=(List.range ((insOf c i).length+1)).map fun j=>⟨i,Int.ofNat j-Int.ofNat 1⟩
def eB (c:Circ) (i:Nat):List LnZ:=(List.range i).flatMap (oQ c)
def ln (c:Circ):List LnZ:=eB c c.nodes.length
theorem iR (c:Circ) (i:Nat):eB c (i+1)=eB c i++oQ c i:=by
 unfold eB
 rw[List.range_succ,List.flatMap_append]
 simp
theorem jB {c:Circ} (C:Cir c):∀ i,i<=c.nodes.length->(eB c i).length<=i*17
 |0,_=>by unfold eB;simp
 |i+1,h=>by
  have:=jB C i (by omega)
  obtain⟨x,hx⟩:=aP (show i<c.nodes.length from h)
  have:=(C.good.node i x hx).few
  rw[iR,List.length_append]
  unfold oQ
  rw[List.length_map,List.length_range,bT hx]
  omega
theorem so {c:Circ} (C:Cir c) {K:List LnZ×Nat->Prop} (h:K (ln c,0)):bW c K:=by
 have hlen:=C.len
 unfold bW
 refine ti C ⟨(fun q=>absurd rfl (eG.1 q)),fun _=>?_⟩
 refine aO (fun s=>s.2<=c.nodes.length/\s.1=eB c s.2) (fun s=>c.nodes.length-s.2) (fun l=>l=ln c) ?_ ⟨Nat.zero_le _,rfl⟩ (fun _ e=>e ▸ h)
 rintro k ⟨l,i⟩ nx ⟨hi,hl⟩ hnx hk
 dsimp only at hi hl
 refine⟨fun q=>?_,fun q=>hk _ ?_⟩
 ·have q:i<c.nodes.length:=bp.1 q
  obtain⟨x,hx⟩:=aP q
  have hfew:=(C.good.node i x hx).few
  have hll:=jB C i hi
  refine cM (fun r=>r=eB c (i+1)) (fun k2 hk2=>⟨x,hx,by omega,?_⟩) ?_
  ·refine aT (fun s=>s.2<=x.ins.length+1/\s.1=eB c i++(oQ c i).take s.2) (fun s=>x.ins.length+1-s.2) ?_ ⟨Nat.zero_le _,by simp[hl]⟩
   rintro⟨l,j⟩ nx ⟨hj,hl⟩ hnx
   dsimp only at hj hl
   refine⟨fun q=>?_,fun q=>hk2 _ ?_⟩
   ·have q:j<x.ins.length+1:=bp.1 q
    have hg:(oQ c i)[j]?=some ⟨i,Int.ofNat j-Int.ofNat 1⟩:=by
     unfold oQ
     rw[List.getElem?_map,bT hx,List.getElem?_range q]
     rfl
    have hb:((oQ c i).take j).length<=17:=by
     rw[List.length_take];omega
    refine⟨by simp only[Int.ofNat_eq_natCast];omega,by simp only[Int.ofNat_eq_natCast];omega,?_,by omega,hnx _ ⟨q,?_⟩ (by dsimp only;omega)⟩
    ·rw[hl,List.length_append,List.length_singleton];omega
    ·dsimp only
     rw[hl,List.append_assoc,gU hg]
   ·have q:x.ins.length+1<=j:=bO.1 q
    rw[hl,iR,List.take_of_length_le]
    unfold oQ
    rw[List.length_map,List.length_range,bT hx]
    exact q
  ·rintro _ rfl
   exact⟨by omega,hnx _ ⟨q,rfl⟩ (by dsimp only;omega)⟩
 ·have q:c.nodes.length<=i:=bO.1 q
  have e:i=c.nodes.length:=by omega
  subst e
  exact hl
theorem aH {α:Type}{l:List α}{a b:α}:a∈l++[b]↔a∈l\/a=b:=by rw[List.mem_append,List.mem_singleton]
theorem pD {κ ν:Type} [DecidableEq κ] (m:List (κ×ν)) (k k':κ) (v:ν):ba (fM m k v) k'=if k'=k then some v else ba m k':=by
 induction m with
 |nil=>unfold fM ba ba;rfl
 |cons a m ih =>
  unfold fM
  by_cases e:k=a.1
  ·rw[if_pos e]
   unfold ba
   by_cases e2:k'=k
   ·rw[if_pos e2,if_pos e2]
   ·rw[if_neg e2,if_neg e2,if_neg (fun q=>e2 (q.trans e.symm))]
  ·rw[if_neg e]
   unfold ba
   by_cases e2:k'=a.1
   ·rw[if_pos e2,if_pos e2,if_neg (fun q=>e (q.symm.trans e2))]
   ·rw[if_neg e2,if_neg e2,ih]
def bM:Circ:=⟨[⟨0,[],0,0⟩,⟨0,[],0,0⟩,⟨5,[0,1],0,0⟩],[⟨#[97]⟩,⟨#[98]⟩,⟨#[121]⟩],[],[2]⟩
theorem tH:(([⟨#[97]⟩,⟨#[98]⟩,⟨#[121]⟩]:List ByteArray).all fun s=>isTrue (nD Tryd.prog [] (mD Tryd.prog) 60 89 #[.string s] (dG vars)))=true:=by kernel_rfl
theorem xH {s:ByteArray} (h:s∈([⟨#[97]⟩,⟨#[98]⟩,⟨#[121]⟩]:List ByteArray)):yX s:=by
 obtain⟨h',e⟩:=oa (List.all_eq_true.1 tH s h)
 have c:=(gI hM hP (fun f vs h v e=>iF f vs h v e) 60 _ _ _ _ _ e).1
 exact⟨PureV.oe rfl,fun h b=>c.lift (by kernel_rfl) rfl (kU (uV b) (nL b))⟩
theorem qe {i:Nat}{x:Node} (h:bM.nodes[i]?=some x):(i=0/\x=⟨0,[],0,0⟩)\/(i=1/\x=⟨0,[],0,0⟩)\/(i=2/\x=⟨5,[0,1],0,0⟩):=by
 have hi:=ag h
 have hi:i<3:=hi
 have:i=0\/i=1\/i=2:=by omega
 rcases this with rfl|rfl|rfl
 ·cases h;exact .inl ⟨rfl,rfl⟩
 ·cases h;exact .inr (.inl ⟨rfl,rfl⟩)
 ·cases h;exact .inr (.inr ⟨rfl,rfl⟩)
theorem xx:Cir bM:=by
 have node:∀ i x,bM.nodes[i]?=some x->GoodN bM i x:=by
  intro i x h
  rcases qe h with⟨rfl,rfl⟩|⟨rfl,rfl⟩|⟨rfl,rfl⟩
  ·exact⟨(by decide:0<=15),(by decide:Arity 0 0),(fun k m=>by cases m),(fun e=>by cases e),fun _=>⟨rfl,rfl⟩,(fun e=>by cases e),fun e=>absurd e (by decide:¬ 1<=0)⟩
  ·exact⟨(by decide:0<=15),(by decide:Arity 0 0),(fun k m=>by cases m),(fun e=>by cases e),fun _=>⟨rfl,rfl⟩,(fun e=>by cases e),fun e=>absurd e (by decide:¬ 1<=0)⟩
  ·exact⟨(by decide:5<=15),(by decide:Arity 5 2),(by decide:∀ k∈[0,1],k<3),(fun e=>by cases e),fun _=>⟨rfl,rfl⟩,(fun e=>by cases e),fun _ _=>(by decide:∀ k∈[0,1],k<2)⟩
 have F:FanOk bM:=xT ⟨by decide,fun i x h=>⟨(node i x h).ins,(node i x h).few⟩⟩
 have N:NamesOk bM:=by
  refine FnV.nU (enc:=i64) (PureV.flat rfl) fun h hB=>?_
  exact jP (K:=fun r=>r=0) (lU (fun s m=>xH m) (by decide) (by decide) rfl) hB
 refine⟨⟨by decide,rfl,N,F,(fun m h=>by cases h),by decide,by decide,by decide,node,by decide⟩,rfl,fun i x h=>?_⟩
 rcases qe h with⟨rfl,rfl⟩|⟨rfl,rfl⟩|⟨rfl,rfl⟩ <;> decide
structure Si where
 node:Nat
 pin:Nat
 v:Nat
deriving DecidableEq
structure VS (c:Circ) (s:Si):Prop where
 node:s.node<c.nodes.length
 pin:s.pin<=(insOf c s.node).length
 v:s.v<=1
def eqR (k n:Nat):List Rul :=
 if k=3\/k=13/\n=1 then [⟨0,0⟩,⟨1,1⟩] else if k=4 then [⟨0,1⟩,⟨1,0⟩] else if k=5 then [⟨0,0⟩] else if k=6 then [⟨0,1⟩] else if k=7 then [⟨1,1⟩] else if k=8 then [⟨1,0⟩] else []
theorem oh {k n:Nat}{r:Rul} (h:r∈eqR k n):r.pin<=1/\r.out<=1:=by
 unfold eqR at h
 split at h
 ·simp only[List.mem_cons,List.not_mem_nil,or_false] at h
  rcases h with rfl|rfl <;> decide
 split at h
 ·simp only[List.mem_cons,List.not_mem_nil,or_false] at h
  rcases h with rfl|rfl <;> decide
 split at h
 ·rw[List.mem_singleton] at h;subst h;decide
 split at h
 ·rw[List.mem_singleton] at h;subst h;decide
 split at h
 ·rw[List.mem_singleton] at h;subst h;decide
 split at h
 ·rw[List.mem_singleton] at h;subst h;decide
 ·cases h
theorem zb (k n:Nat):(eqR k n).length<=2:=by
 unfold eqR
 repeat' split
 all_goals decide
def Al (n:Nat) (r:Rul) (j:Nat):Si×Si:=(⟨n,j+1,r.pin⟩,⟨n,0,r.out⟩)
def tR (c:Circ) (n:Nat) (r:Rul):List (Si×Si):=(List.range (insOf c n).length).map (Al n r)
def xE (c:Circ) (n:Nat):List (Si×Si):=(eqR (kd c n) (insOf c n).length).flatMap (tR c n)
def eH (c:Circ) (i:Nat):List (Si×Si):=(List.range i).flatMap (xE c)
def jc (c:Circ) (n:Nat):Option Ln:=match fanOf c n with
 |[l]=>if n∈c.outs then none else some l
 |_=>none
def vY (c:Circ) (n:Nat):List (Si×Si):=match jc c n with
 |some l=>[(⟨n,0,0⟩,⟨l.node,l.pin+1,0⟩),(⟨n,0,1⟩,⟨l.node,l.pin+1,1⟩)]
 |none=>[]
def gP (c:Circ) (i:Nat):List (Si×Si):=(List.range i).flatMap (vY c)
def edgesN (c:Circ):List (Si×Si):=eH c c.nodes.length++gP c c.nodes.length
theorem sB (c:Circ) (i:Nat):eH c (i+1)=eH c i++xE c i:=by
 unfold eH
 rw[List.range_succ,List.flatMap_append]
 simp
theorem nC (c:Circ) (i:Nat):gP c (i+1)=gP c i++vY c i:=by
 unfold gP
 rw[List.range_succ,List.flatMap_append]
 simp
def cC (c:Circ):Nat->Nat
 |0=>0
 |i+1=>cC c i+2*((insOf c i).length+1)
def fsN (c:Circ):List Nat:=(List.range c.nodes.length).map (cC c)
def npN (c:Circ):Nat:=cC c c.nodes.length
def numN (c:Circ) (s:Si):Nat:=cC c s.node+2*s.pin+s.v
theorem kc {c:Circ}{i j:Nat} (h:i<=j):cC c i<=cC c j:=by
 induction j with
 |zero =>
    have:i=0:=by omega
    rw[this];exact Nat.le_refl _
 |succ j ih =>
  by_cases q:i=j+1
  ·rw[q];exact Nat.le_refl _
  ·have:=ih (by omega)
   rw[cC];omega
theorem rD {c:Circ}{s:Si} (h:VS c s):numN c s<cC c (s.node+1):=by
 have:=h.pin
 have:=h.v
 unfold numN
 rw[cC];omega
theorem dq {c:Circ}{s:Si} (h:VS c s):numN c s<npN c:=Nat.lt_of_lt_of_le (rD h) (kc h.node)
theorem jw {c:Circ}{s t:Si} (h:VS c s) (g:VS c t) (e:numN c s=numN c t):s=t:=by
 have h1:=rD h
 have h2:=rD g
 have hn:s.node=t.node:=by
  rcases Nat.lt_trichotomy s.node t.node with q|q|q
  ·have:=kc (c:=c) (show s.node+1<=t.node from q)
   have:cC c t.node<=numN c t:=by unfold numN;omega
   omega
  ·exact q
  ·have:=kc (c:=c) (show t.node+1<=s.node from q)
   have:cC c s.node<=numN c s:=by unfold numN;omega
   omega
 have a1:=h.v
 have a2:=g.v
 obtain⟨n,p,v⟩:=s
 obtain⟨n',p',v'⟩:=t
 dsimp only at hn a1 a2
 subst hn
 unfold numN at e
 dsimp only at e
 obtain rfl:p=p':=by omega
 obtain rfl:v=v':=by omega
 rfl
theorem mV {c:Circ} (C:Cir c):∀ i,i<=c.nodes.length->cC c i<=i*34
 |0,_=>Nat.le_refl _
 |i+1,h=>by
  have:=mV C i (by omega)
  obtain⟨x,hx⟩:=aP (show i<c.nodes.length from h)
  have:=(C.good.node i x hx).few
  rw[cC,bT hx];omega
theorem rz {c:Circ} (C:Cir c):npN c<=544:=by
 have:=mV C _ (Nat.le_refl _)
 have:=C.len
 unfold npN;omega
theorem yJ {c:Circ}{i:Nat} (h:i<c.nodes.length):(fsN c)[i]?=some (cC c i):=by
 unfold fsN
 rw[List.getElem?_map,List.getElem?_range h];rfl
theorem yK {c:Circ} (C:Cir c) {K:List Nat×List Nat×Nat->Prop} (h:K (fsN c,List.range (npN c),npN c)):da c K:=by
 have hlen:=C.len
 have hnp:=rz C
 unfold da
 refine aO (fun s=>s.2.2<=c.nodes.length/\s.1=(List.range s.2.2).map (cC c)/\s.2.1=cC c s.2.2) (fun s=>c.nodes.length-s.2.2) (fun s=>s=(fsN c,npN c)) ?_ ⟨Nat.zero_le _,rfl,rfl⟩ ?_
 ·rintro k ⟨fs,n,i⟩ nx ⟨hi,hf,hn⟩ hnx hk
  dsimp only at hi hf hn
  refine⟨fun q=>?_,fun q=>hk _ ?_⟩
  ·have q:i<c.nodes.length:=bp.1 q
   obtain⟨x,hx⟩:=aP q
   have hfew:=(C.good.node i x hx).few
   have:=mV C i (by omega)
   refine⟨x,hx,?_,by omega,by omega,by omega,by omega,hnx _ ⟨q,?_,?_⟩ (by dsimp only;omega)⟩
   ·rw[hf,List.length_map,List.length_range,List.length_singleton];omega
   ·dsimp only
    rw[hf,hn,List.range_succ,List.map_append];rfl
   ·dsimp only
    rw[cC,bT hx,hn]
  ·have q:c.nodes.length<=i:=bO.1 q
   obtain rfl:i=c.nodes.length:=by omega
   rw[hf,hn];rfl
 ·rintro _ rfl
  refine⟨by omega,by omega,?_⟩
  refine aO (fun s=>s.2<=npN c/\s.1=List.range s.2++List.replicate (npN c-s.2) 0) (fun s=>npN c-s.2) (fun s=>s=List.range (npN c)) ?_ ⟨Nat.zero_le _,by simp⟩ (fun _ e=>e ▸ h)
  rintro k ⟨ps,i⟩ nx ⟨hi,hp⟩ hnx hk
  dsimp only at hi hp
  refine⟨fun q=>?_,fun q=>hk _ ?_⟩
  ·have q:i<npN c:=bp.1 q
   have hl:i<ps.length:=by rw[hp];simp;omega
   refine⟨q,_,List.getElem?_eq_getElem hl,by omega,hnx _ ⟨q,?_⟩ (by dsimp only;omega)⟩
   dsimp only
   rw[hp,List.set_append_right _ _ (by simp),List.range_succ,List.append_assoc]
   congr 1
   rw[List.length_range,Nat.sub_self,show npN c-i=(npN c-(i+1))+1 by omega,List.replicate_succ]
   rfl
  ·have q:npN c<=i:=bO.1 q
   obtain rfl:i=npN c:=by omega
   rw[hp];simp
theorem wC {S:Type}{body:S->(S->Prop)->Prop} (Inv:Nat->S->Prop) (step:∀ n s next,Inv n s->(∀ m s',m<n->Inv m s'->next s')->body s next) {n:Nat}{s:S} (h:Inv n s):aI body s:=by
 have key:∀ N n s,Inv n s->n<N->tu body N s:=by
  intro N
  induction N with
  |zero=>intro n s _ h;omega
  |succ N ih=>exact fun n s hI hn=>step n s _ hI fun m s' h1 h2=>ih m s' h2 (by omega)
 exact⟨n+1,key _ n s h (by omega)⟩
theorem lM {np i r:Nat}{fs ps:List Nat} (hl:ps.length=np) (hr:Rt ps i r) {K:List Nat×Nat->Prop} (h:∀ qs,SameR ps qs->K (qs,r)):bF np fs ps i K:=by
 obtain⟨n,hn⟩:=hr
 unfold bF
 refine wC (fun n s=>SameR ps s.1/\RtN s.1 n s.2 r) ?_ (n:=n) ⟨SameR.refl ps,hn⟩
 rintro n ⟨qs,i⟩ nx ⟨hs,hq⟩ hnx
 dsimp only at hs hq
 have hlq:qs.length=np:=hs.len.trans hl
 have hi:i<np:=hlq ▸ Rt.lt1 ⟨n,hq⟩
 match n,hq with
 |0,hq =>
  obtain⟨h1,rfl⟩:=hq
  exact⟨hi,i,h1,(fun q=>absurd rfl (eG.1 q)),fun _=>h qs hs⟩
 |n+1,⟨j,h1,h2,h3⟩ =>
  have hj:j<np:=hlq ▸ Rt.lt1 ⟨n,h3⟩
  obtain⟨k,hk⟩:=aP (l:=qs) (i:=j) (by rw[hlq];exact hj)
  refine⟨hi,j,h1,fun _=>⟨hi,j,h1,hj,k,hk,hi,j,h1,hi,k,List.getElem?_set_self (by rw[hlq];exact hi),?_⟩,fun q=>absurd (pV.1 q) h2⟩
  obtain⟨m,hm1,hm⟩:∃ m,m<=n/\RtN (qs.set i k) m k r:=by
   match n,h3 with
   |0,h3 =>
    obtain⟨e,rfl⟩:=h3
    rw[e] at hk;cases hk
    obtain⟨m,hm,g⟩:=RtN.sh h1 e h2 (show RtN qs 0 j j from⟨e,rfl⟩)
    exact⟨m,hm,g⟩
   |n+1,⟨k',e,_,h3⟩ =>
    rw[hk] at e;cases e
    obtain⟨m,hm,g⟩:=RtN.sh h1 hk h2 h3
    exact⟨m,by omega,g⟩
  exact hnx m _ (by omega) ⟨hs.trans (SameR.sh h1 hk h2),hm⟩
theorem oc {c:Circ} (C:Cir c) {s:Si} (hs:VS c s) {np:Nat}{ps:List Nat}{pin:Int} (hp:pin+Int.ofNat 1=Int.ofNat s.pin) {K:Nat->Prop} (h:K (numN c s)):bJ np (fsN c) ps s.node pin s.v K:=by
 have h1:=dq hs
 have h2:=rz C
 have h3:=hs.v
 unfold numN at h1
 unfold bJ
 exact⟨_,yJ hs.node,s.pin,hp,by omega,by omega,by omega,by omega,by omega,h⟩
abbrev EdgeI (c:Circ) (es:List (Si×Si)) (ps:List Nat):Prop:=UfI (VS c) (numN c) (fun u w=>(u,w)∈es) ps (npN c)
theorem UfI.congr {α:Type}{V:α->Prop}{num:α->Nat}{E F:α->α->Prop}{ps:List Nat}{np:Nat} (U:UfI V num E ps np) (h:∀ a b,E a b↔F a b):UfI V num F ps np:=by
 have:E=F:=by funext a b;exact propext (h a b)
 exact this ▸ U
theorem vb {c:Circ}{es:List (Si×Si)}{ps:List Nat} (U:EdgeI c es ps) {x y:Si} (hx:VS c x) (hy:VS c y) {fs:List Nat}{K:List Nat->Prop} (h:∀ qs,EdgeI c (es++[(x,y)]) qs->K qs):cF (npN c) fs ps (numN c x) (numN c y) K:=by
 obtain⟨rx,hrx⟩:=U.fo (numN c x) (U.len ▸ dq hx)
 obtain⟨ry,hry⟩:=U.fo (numN c y) (U.len ▸ dq hy)
 unfold cF
 refine lM U.len hrx fun qs hq=>?_
 have U1:=U.same hq
 refine lM U1.len (hq.rt _ _ hry) fun qs2 hq2=>?_
 have U2:=U1.same hq2
 have h1:=hq2.rt _ _ (hq.rt _ _ hrx)
 have h2:=hq2.rt _ _ (hq.rt _ _ hry)
 refine⟨by rw[<- U2.len];exact h1.lt,_,h1.root,h _ ((U2.join hx hy h1 h2).congr fun a b=>?_)⟩
 rw[List.mem_append,List.mem_singleton,Prod.mk.injEq]
theorem nw {k:Nat}{K:Rul×Bool->Prop} (h5:k=5->K (⟨0,0⟩,true)) (h6:k=6->K (⟨0,1⟩,true)) (h7:k=7->K (⟨1,1⟩,true)) (h8:k=8->K (⟨1,0⟩,true)) (h:k≠5->k≠6->k≠7->k≠8->K (⟨0,0⟩,false)):aY k K :=
 ⟨fun q=>h5 (dy.1 q),fun q5=>⟨fun q=>h6 (dy.1 q),fun q6=>⟨fun q=>h7 (dy.1 q),fun q7=>⟨fun q=>h8 (dy.1 q),fun q8=>h (dK.1 q5) (dK.1 q6) (dK.1 q7) (dK.1 q8)⟩⟩⟩⟩
theorem wM {x:Node}{K:List Rul->Prop} (h:K (eqR x.kind x.ins.length)):cm x K:=by
 have fin:(x.kind≠3)->¬ (x.kind=13/\x.ins.length=1)->x.kind≠4->aY x.kind (fun r2=>(r2.2=true->K ([(⟨r2.1.pin,r2.1.out⟩:Rul)]:(List Rul)))/\(r2.2=false->K ([]))):=by
  intro h3 h13 h4
  have e:eqR x.kind x.ins.length=if x.kind=5 then [⟨0,0⟩] else if x.kind=6 then [⟨0,1⟩] else if x.kind=7 then [⟨1,1⟩] else if x.kind=8 then [⟨1,0⟩] else []:=by
   unfold eqR
   rw[if_neg (fun q=>q.elim h3 h13),if_neg h4]
  rw[e] at h
  refine nw (fun q=>?_) (fun q=>?_) (fun q=>?_) (fun q=>?_) fun q5 q6 q7 q8=>?_
  ·exact⟨fun _=>by simpa[q] using h,fun q=>by cases q⟩
  ·exact⟨fun _=>by simpa[q] using h,fun q=>by cases q⟩
  ·exact⟨fun _=>by simpa[q] using h,fun q=>by cases q⟩
  ·exact⟨fun _=>by simpa[q] using h,fun q=>by cases q⟩
  ·exact⟨(fun q=>by cases q),fun _=>by simpa[q5,q6,q7,q8] using h⟩
 unfold cm
 refine⟨fun q=>?_,fun q3=>⟨fun q13=>⟨fun q1=>?_,fun q1=>?_⟩,fun q13=>⟨fun q4=>?_,fun q4=>?_⟩⟩⟩
 ·have q:=dy.1 q
  simpa[eqR,q] using h
 ·have q13:=dy.1 q13
  have q1:=dy.1 q1
  simpa[eqR,q13,q1] using h
 ·have q13:=dy.1 q13
  exact fin (dK.1 q3) (fun q=>dK.1 q1 q.2) (by omega)
 ·have q4:=dy.1 q4
  simpa[eqR,q4] using h
 ·exact fin (dK.1 q3) (fun q=>dK.1 q13 q.1) (dK.1 q4)
theorem xo {l:List Nat}{x:Nat} (hl:l.length<2 ^ 60) {K:Int->Prop} (h1:x∈l->∀ i:Nat,K (Int.ofNat i)) (h2:x ∉ l->K (Int.negSucc 0)):eD l x K:=by
 unfold eD
 refine aO (fun i=>i<=l.length/\x ∉ l.take i) (fun i=>l.length-i) (fun _=>x ∉ l) ?_ ⟨Nat.zero_le _,by simp⟩ (fun _ q=>h2 q)
 rintro k i nx ⟨hi,hn⟩ hnx hk
 refine⟨fun q=>?_,fun q=>hk _ ?_⟩
 ·have q:i<l.length:=bp.1 q
  obtain⟨y,hy⟩:=aP q
  refine⟨y,hy,fun e=>h1 ?_ i,fun e=>⟨by omega,hnx _ ⟨q,?_⟩ (by omega)⟩⟩
  ·rw[dy.1 e];exact List.mem_of_getElem? hy
  ·rw[gU hy,aH]
   exact fun m=>m.elim hn (dK.1 e)
 ·have q:l.length<=i:=bO.1 q
  rw[List.take_of_length_le q] at hn
  exact hn
theorem rA {l:List Nat}{x:Nat} (hl:l.length<2 ^ 60) {K:Bool->Prop} (h:K (decide (x∈l))):cX l x K:=by
 unfold cX
 refine xo hl (fun m i=>?_) fun m=>?_
 ·rw[decide_eq_true m] at h
  rw[yc i];exact h
 ·rw[decide_eq_false m] at h
  exact h
theorem vH {c:Circ}{n:Nat}{x:Node} (hx:c.nodes[n]?=some x) {r:Rul} (hr:r∈eqR x.kind x.ins.length):VS c ⟨n,0,r.out⟩:=⟨ag hx,Nat.zero_le _,(oh hr).2⟩
theorem vD {c:Circ}{n j:Nat}{x:Node} (hx:c.nodes[n]?=some x) (hj:j<x.ins.length) {r:Rul} (hr:r∈eqR x.kind x.ins.length):VS c ⟨n,j+1,r.pin⟩:=⟨ag hx,by rw[bT hx];exact hj,(oh hr).1⟩
theorem vm {c:Circ}{n:Nat}{l:Ln} (h:l∈fanOf c n):∃ x,c.nodes[l.node]?=some x/\x.ins[l.pin]?=some n:=by
 unfold fanOf at h
 obtain⟨p,h1,h2⟩:=List.mem_flatMap.1 h
 unfold aR at h2
 obtain⟨q,hq,rfl⟩:=List.mem_map.1 h2
 obtain⟨hq1,hq2⟩:=List.mem_filter.1 hq
 have h1:=List.mem_zipIdx_iff_getElem?.1 h1
 have hq1:=List.mem_zipIdx_iff_getElem?.1 hq1
 have hq2:q.1=n:=by simpa using hq2
 exact⟨p.1,h1,hq2 ▸ hq1⟩
theorem na {c:Circ}{n:Nat}{l:Ln} (h:jc c n=some l):fanOf c n=[l]/\n ∉ c.outs:=by
 unfold jc at h
 split at h
 ·rename_i l' e
  split at h
  ·cases h
  ·cases h
   exact⟨e,by assumption⟩
 ·cases h
theorem vz {c:Circ} (C:Cir c) {K:List Nat×List Nat×Nat->Prop} (h:∀ ps,EdgeI c (edgesN c) ps->K (fsN c,ps,npN c)):cG c K:=by
 have hlen:=C.len
 have hnp:=rz C
 unfold cG
 refine yK C ?_
 have U0:EdgeI c [] (List.range (npN c)):=by
  have hr:∀ i r,Rt (List.range (npN c)) i r->i=r:=by
   rintro i r ⟨n,h⟩
   cases n with
   |zero=>exact h.2
   |succ n =>
    obtain⟨j,h1,h2,_⟩:=h
    obtain⟨h3,h4⟩:=List.getElem?_eq_some_iff.1 h1
    rw[List.getElem_range] at h4
    exact absurd h4.symm h2
  refine⟨List.length_range,fun i hi=>⟨i,Rt.self ?_⟩,fun a ha=>dq ha,fun a b r s ha hb h1 h2=>?_⟩
  ·rw[List.length_range] at hi
   exact List.getElem?_range hi
  ·rw[<- hr _ _ h1,<- hr _ _ h2]
   constructor
   ·intro e
    rw[jw ha hb e];exact .refl _
   ·intro q
    have:a=b:=q.inv (f:=id) (fun _ _ m=>by cases m)
    rw[this]
 refine aO (fun s=>s.2<=c.nodes.length/\EdgeI c (eH c s.2) s.1) (fun s=>c.nodes.length-s.2) (fun s=>EdgeI c (eH c c.nodes.length) s) ?_ ⟨Nat.zero_le _,(show EdgeI c (eH c 0) (List.range (npN c)) from U0)⟩ ?_
 ·rintro k ⟨ps,i⟩ nx ⟨hi,hU⟩ hnx hk
  dsimp only at hi hU
  refine⟨fun q=>?_,fun q=>hk _ ?_⟩
  ·have q:i<c.nodes.length:=bp.1 q
   obtain⟨x,hx⟩:=aP q
   have hfew:=(C.good.node i x hx).few
   refine cM (fun s=>EdgeI c (eH c (i+1)) s) (fun k2 hk2=>⟨x,hx,wM ?_⟩) fun ps2 hU2=>⟨by omega,hnx _ ⟨q,hU2⟩ (by dsimp only;omega)⟩
   have hlen2:=zb x.kind x.ins.length
   refine aT (fun s=>s.2<=(eqR x.kind x.ins.length).length/\EdgeI c (eH c i++((eqR x.kind x.ins.length).take s.2).flatMap (tR c i)) s.1) (fun s=>(eqR x.kind x.ins.length).length-s.2) ?_ ⟨Nat.zero_le _,by simpa using hU⟩
   rintro⟨ps,t⟩ nx3 ⟨ht,hU⟩ hnx3
   dsimp only at ht hU
   refine⟨fun q3=>?_,fun q3=>hk2 _ ?_⟩
   ·have q3:t<(eqR x.kind x.ins.length).length:=bp.1 q3
    obtain⟨r,hr⟩:=aP q3
    have hrm:=List.mem_of_getElem? hr
    refine cM (fun s=>EdgeI c (eH c i++((eqR x.kind x.ins.length).take t).flatMap (tR c i)++tR c i r) s) (fun k4 hk4=>⟨r,hr,?_⟩) fun ps2 hU2=>⟨by omega,hnx3 _ ⟨q3,?_⟩ (by dsimp only;omega)⟩
    ·refine aT (fun s=>s.2<=x.ins.length/\EdgeI c (eH c i++((eqR x.kind x.ins.length).take t).flatMap (tR c i)++(List.range s.2).map (Al i r)) s.1) (fun s=>x.ins.length-s.2) ?_ ⟨Nat.zero_le _,by simpa using hU⟩
     rintro⟨ps,j⟩ nx5 ⟨hj,hU⟩ hnx5
     dsimp only at hj hU
     refine⟨fun q5=>?_,fun q5=>hk4 _ ?_⟩
     ·have q5:j<x.ins.length:=bp.1 q5
      have v1:=vD hx q5 hrm
      have v2:=vH hx hrm
      refine oc C v1 (by simp only[Int.ofNat_eq_natCast];omega) (oc C v2 (by rfl) (vb hU v1 v2 fun qs hQ=>⟨by omega,hnx5 _ ⟨q5,?_⟩ (by dsimp only;omega)⟩))
      dsimp only
      rw[List.range_succ,List.map_append,<- List.append_assoc]
      exact hQ
     ·have q5:x.ins.length<=j:=bO.1 q5
      obtain rfl:j=x.ins.length:=by omega
      have e:tR c i r=(List.range x.ins.length).map (Al i r):=by unfold tR;rw[bT hx]
      rw[e];exact hU
    ·dsimp only
     rw[gU hr,List.flatMap_append,<- List.append_assoc]
     simpa using hU2
   ·have q3:(eqR x.kind x.ins.length).length<=t:=bO.1 q3
    rw[List.take_of_length_le q3] at hU
    rw[sB]
    unfold xE
    rw[bT hx,lI hx]
    exact hU
  ·have q:c.nodes.length<=i:=bO.1 q
   obtain rfl:i=c.nodes.length:=by omega
   exact hU
 ·intro ps1 hU1
  refine cM (fun s=>EdgeI c (edgesN c) s) (fun k hk=>⟨C.good.fanOk,?_⟩) (fun ps hU=>h ps hU)
  have hfl:(wO c).length=c.nodes.length:=by unfold wO kA;simp
  refine aT (fun s=>s.2<=c.nodes.length/\EdgeI c (eH c c.nodes.length++gP c s.2) s.1) (fun s=>c.nodes.length-s.2) ?_ ⟨Nat.zero_le _,by simpa[gP] using hU1⟩
  rintro⟨ps,i⟩ nx ⟨hi,hU⟩ hnx
  dsimp only at hi hU
  refine⟨fun q=>?_,fun q=>hk _ ?_⟩
  ·have q:i<c.nodes.length:=hfl ▸ bp.1 q
   have hget:(wO c)[i]?=some ((fanOf c i).map Ln.toZ):=by
    unfold wO
    rw[List.getElem?_map,oU q];rfl
   refine cM (fun s=>EdgeI c (eH c c.nodes.length++gP c (i+1)) s) (fun k2 hk2=>⟨_,hget,?_⟩) fun ps2 hU2=>⟨by omega,hnx _ ⟨q,hU2⟩ (by dsimp only;omega)⟩
   refine cM (fun b=>b=(jc c i).isSome) (fun k3 hk3=>⟨fun e=>?_,fun e=>hk3 _ ?_⟩) ?_
   ·have e:=dy.1 e
    rw[List.length_map] at e
    obtain⟨l,hl⟩:=List.length_eq_one_iff.1 e
    refine rA (by have:=C.good.outsLen;omega) (hk3 _ ?_)
    unfold jc
    rw[hl]
    by_cases m:i∈c.outs
    ·simp[m]
    ·simp[m]
   ·have e:=dK.1 e
    rw[List.length_map] at e
    unfold jc
    split
    ·rename_i l hl
     rw[hl] at e;exact absurd rfl e
    ·rfl
   ·rintro b rfl
    cases hs:jc c i with
    |none =>
     refine⟨fun q=>(by cases q),fun _=>hk2 _ ?_⟩
     rw[nC]
     unfold vY
     rw[hs,List.append_nil]
     exact hU
    |some l =>
     refine⟨fun _=>?_,fun q=>by cases q⟩
     obtain⟨hl,_⟩:=na hs
     obtain⟨x,hx,hp⟩:=vm (c:=c) (n:=i) (l:=l) (by rw[hl];exact List.mem_singleton.2 rfl)
     have hE:gP c (i+1)=gP c i++[(⟨i,0,0⟩,⟨l.node,l.pin+1,0⟩),(⟨i,0,1⟩,⟨l.node,l.pin+1,1⟩)]:=by
      rw[nC]
      unfold vY
      rw[hs]
     rw[hE] at hk2
     refine aT (fun s=>s.2<=2/\EdgeI c (eH c c.nodes.length++gP c i++([(⟨i,0,0⟩,⟨l.node,l.pin+1,0⟩),(⟨i,0,1⟩,⟨l.node,l.pin+1,1⟩)]:List (Si×Si)).take s.2) s.1) (fun s=>2-s.2) ?_ ⟨Nat.zero_le _,by simpa using hU⟩
     rintro⟨ps,v⟩ nx4 ⟨hv,hU⟩ hnx4
     dsimp only at hv hU
     refine⟨fun q4=>?_,fun q4=>hk2 _ ?_⟩
     ·have q4:v<=1:=my.1 q4
      have v1:VS c ⟨i,0,v⟩:=⟨q,Nat.zero_le _,q4⟩
      have v2:VS c ⟨l.node,l.pin+1,v⟩:=⟨ag hx,by rw[bT hx];exact ag hp,q4⟩
      have hg:((fanOf c i).map Ln.toZ)[0]?=some l.toZ:=by rw[hl];rfl
      refine oc C v1 (by rfl) ⟨_,hg,_,hg,oc C v2 (by unfold Ln.toZ;simp only[Int.ofNat_eq_natCast];omega) (vb hU v1 v2 fun qs hQ=>⟨by omega,hnx4 _ ⟨by dsimp only;omega,?_⟩ (by dsimp only;omega)⟩)⟩
      dsimp only
      rw[List.append_assoc] at hQ
      have hv:v=0\/v=1:=by omega
      rcases hv with rfl|rfl
      ·exact hQ
      ·exact hQ
     ·have q4:1<v:=mr.1 q4
      obtain rfl:v=2:=by omega
      rw[<- List.append_assoc]
      exact hU
  ·have q:c.nodes.length<=i:=hfl ▸ bO.1 q
   obtain rfl:i=c.nodes.length:=by omega
   exact hU
instance decVS (c:Circ) (s:Si):Decidable (VS c s):=decidable_of_iff (s.node<c.nodes.length/\s.pin<=(insOf c s.node).length/\s.v<=1) ⟨fun ⟨a,b,d⟩=>⟨a,b,d⟩,fun h=>⟨h.node,h.pin,h.v⟩⟩
def zO (c:Circ) (n v:Nat):Option Rul:=(eqR (kd c n) (insOf c n).length).find? fun r=>r.pin==v
def xy (c:Circ) (s:Si):Option Si :=
 if s.pin=0 then (jc c s.node).map fun l=>⟨l.node,l.pin+1,s.v⟩ else (zO c s.node s.v).map fun r=>⟨s.node,0,r.out⟩
def down (c:Circ) (s:Si):Option Si:=if VS c s then xy c s else none
theorem ml {k n v:Nat}{r:Rul}:(eqR k n).find? (fun r=>r.pin==v)=some r↔r∈eqR k n/\r.pin=v:=by
 constructor
 ·intro h
  exact⟨List.mem_of_find?_eq_some h,by simpa using List.find?_some h⟩
 ·rintro⟨m,rfl⟩
  unfold eqR at m ⊢
  split
  ·rename_i q
   rw[if_pos q] at m
   simp only[List.mem_cons,List.not_mem_nil,or_false] at m
   rcases m with rfl|rfl <;> rfl
  rename_i q
  rw[if_neg q] at m
  split
  ·rename_i q
   rw[if_pos q] at m
   simp only[List.mem_cons,List.not_mem_nil,or_false] at m
   rcases m with rfl|rfl <;> rfl
  rename_i q
  rw[if_neg q] at m
  split
  ·rename_i q
   rw[if_pos q,List.mem_singleton] at m
   subst m;rfl
  rename_i q
  rw[if_neg q] at m
  split
  ·rename_i q
   rw[if_pos q,List.mem_singleton] at m
   subst m;rfl
  rename_i q
  rw[if_neg q] at m
  split
  ·rename_i q
   rw[if_pos q,List.mem_singleton] at m
   subst m;rfl
  rename_i q
  rw[if_neg q] at m
  split
  ·rename_i q
   rw[if_pos q,List.mem_singleton] at m
   subst m;rfl
  rename_i q
  rw[if_neg q] at m
  cases m
theorem jt {c:Circ}{n j v:Nat}{w:Si}:down c ⟨n,j+1,v⟩=some w↔n<c.nodes.length/\j<(insOf c n).length/\∃ r∈eqR (kd c n) (insOf c n).length,r.pin=v/\w=⟨n,0,r.out⟩:=by
 unfold down xy zO
 by_cases V:VS c ⟨n,j+1,v⟩
 ·rw[if_pos V,if_neg (by simp)]
  constructor
  ·intro h
   obtain⟨r,hr,rfl⟩:=Option.map_eq_some_iff.1 h
   obtain⟨h1,h2⟩:=ml.1 hr
   exact⟨V.node,V.pin,r,h1,h2,rfl⟩
  ·rintro⟨_,_,r,h1,h2,rfl⟩
   exact Option.map_eq_some_iff.2 ⟨r,ml.2 ⟨h1,h2⟩,rfl⟩
 ·rw[if_neg V]
  constructor
  ·intro h;cases h
  ·rintro⟨h1,h2,r,h3,rfl,_⟩
   exact absurd ⟨h1,h2,(oh h3).1⟩ V
theorem ic {c:Circ}{n v:Nat}{w:Si}:down c ⟨n,0,v⟩=some w↔n<c.nodes.length/\v<=1/\∃ l,jc c n=some l/\w=⟨l.node,l.pin+1,v⟩:=by
 unfold down xy
 by_cases V:VS c ⟨n,0,v⟩
 ·rw[if_pos V,if_pos rfl]
  constructor
  ·intro h
   obtain⟨l,hl,rfl⟩:=Option.map_eq_some_iff.1 h
   exact⟨V.node,V.v,l,hl,rfl⟩
  ·rintro⟨_,_,l,hl,rfl⟩
   exact Option.map_eq_some_iff.2 ⟨l,hl,rfl⟩
 ·rw[if_neg V]
  constructor
  ·intro h;cases h
  ·rintro⟨h1,h2,_⟩
   exact absurd ⟨h1,Nat.zero_le _,h2⟩ V
theorem sA {c:Circ}{n:Nat}{l:Ln} (h:jc c n=some l):∃ x,c.nodes[l.node]?=some x/\x.ins[l.pin]?=some n :=
 vm (by rw[(na h).1];exact List.mem_singleton.2 rfl)
theorem kl {c:Circ}{u w:Si} (h:down c u=some w):VS c u/\VS c w:=by
 have hu:VS c u:=by
  unfold down at h
  split at h
  ·assumption
  ·cases h
 refine⟨hu,?_⟩
 obtain⟨n,p,v⟩:=u
 cases p with
 |zero =>
  obtain⟨h1,h2,l,hl,rfl⟩:=ic.1 h
  obtain⟨x,hx,hp⟩:=sA hl
  exact⟨ag hx,by rw[bT hx];exact ag hp,h2⟩
 |succ j =>
  obtain⟨h1,h2,r,hr,_,rfl⟩:=jt.1 h
  exact⟨h1,Nat.zero_le _,(oh hr).2⟩
theorem vL {c:Circ}{u w:Si}:(u,w)∈edgesN c↔down c u=some w:=by
 unfold edgesN
 rw[List.mem_append]
 constructor
 ·rintro (m|m)
  ·obtain⟨n,hn,m⟩:=List.mem_flatMap.1 m
   obtain⟨r,hr,m⟩:=List.mem_flatMap.1 m
   obtain⟨j,hj,e⟩:=List.mem_map.1 m
   obtain⟨rfl,rfl⟩:=Prod.mk.inj e
   exact jt.2 ⟨List.mem_range.1 hn,List.mem_range.1 hj,r,hr,rfl,rfl⟩
  ·obtain⟨n,hn,m⟩:=List.mem_flatMap.1 m
   unfold vY at m
   split at m
   ·rename_i l hl
    simp only[List.mem_cons,List.not_mem_nil,or_false,Prod.mk.injEq] at m
    rcases m with⟨rfl,rfl⟩|⟨rfl,rfl⟩
    ·exact ic.2 ⟨List.mem_range.1 hn,by decide,l,hl,rfl⟩
    ·exact ic.2 ⟨List.mem_range.1 hn,by decide,l,hl,rfl⟩
   ·cases m
 ·intro h
  obtain⟨n,p,v⟩:=u
  cases p with
  |zero =>
   obtain⟨h1,h2,l,hl,rfl⟩:=ic.1 h
   refine .inr (List.mem_flatMap.2 ⟨n,List.mem_range.2 h1,?_⟩)
   unfold vY
   rw[hl]
   have:v=0\/v=1:=by omega
   rcases this with rfl|rfl <;> simp
  |succ j =>
   obtain⟨h1,h2,r,hr,rfl,rfl⟩:=jt.1 h
   exact .inl (List.mem_flatMap.2 ⟨n,List.mem_range.2 h1,List.mem_flatMap.2 ⟨r,hr,List.mem_map.2 ⟨j,List.mem_range.2 h2,rfl⟩⟩⟩)
theorem we {k n:Nat}{r:Rul} (h:r∈eqR k n):3<=k/\k<=13:=by
 unfold eqR at h
 split at h
 ·omega
 split at h
 ·omega
 split at h
 ·omega
 split at h
 ·omega
 split at h
 ·omega
 split at h
 ·omega
 ·cases h
theorem uq {n:Nat} (h:Arity 0 n):n=0:=by
 obtain⟨h1,h2⟩:=h
 have e2:hiZ 0=0:=by decide
 rw[e2] at h2
 have:(Int.ofNat n)=(n:Int):=rfl
 omega
def lvl (c:Circ) (s:Si):Nat:=if s.pin=0 then 2*(16-s.node)+1 else if kd c s.node=14 then 0 else 2*(16-s.node)+2
theorem yi (c:Circ) (s:Si):lvl c s<=34:=by
 unfold lvl
 split
 ·omega
 ·split <;> omega
theorem oY {c:Circ} (C:Cir c) (u w:Si) (h:down c u=some w):lvl c w<lvl c u:=by
 have hlen:=C.len
 obtain⟨n,p,v⟩:=u
 cases p with
 |zero =>
  obtain⟨h1,h2,l,hl,rfl⟩:=ic.1 h
  obtain⟨x,hx,hp⟩:=sA hl
  unfold lvl
  rw[if_pos rfl,if_neg (by simp)]
  dsimp only
  split
  ·omega
  ·rename_i q
   rw[lI hx] at q
   have hk:=C.kinds _ _ hx
   have g:=C.good.node _ _ hx
   have hk0:x.kind≠0:=fun e=>by
    have a:=g.arity
    rw[e] at a
    have:=uq a
    have:=ag hp
    omega
   have:=g.acyc (by omega) (by omega) n (List.mem_of_getElem? hp)
   have:=ag hx
   omega
 |succ j =>
  obtain⟨h1,h2,r,hr,rfl,rfl⟩:=jt.1 h
  have:=we hr
  unfold lvl
  rw[if_pos rfl,if_neg (by simp),if_neg (by dsimp only;omega)]
  dsimp only
  omega
def clsN (c:Circ) (s:Si):Si:=iM (down c) 34 s
theorem AA {c:Circ} (C:Cir c) {a b:Si}:Cn (fun u w=>(u,w)∈edgesN c) a b↔clsN c a=clsN c b:=by
 have:=zV (down:=down c) (oY C) (N:=34) (yi c) (a:=a) (b:=b)
 unfold clsN
 rw[<- this]
 have e:(fun u w=>(u,w)∈edgesN c)=fun u w=>down c u=some w:=by
  funext u w;exact propext vL
 rw[e]
theorem xu {c:Circ} (C:Cir c) {a b:Si} (h:down c a=some b):clsN c a=clsN c b:=qu (oY C) (yi c a) h
theorem zp {c:Circ}{P:Si->Si->Prop} (h0:∀ a,VS c a->P a a) (h1:∀ a b d,down c a=some b->P b d->P a d) {a:Si} (ha:VS c a):P a (clsN c a):=by
 have key:∀ n a,VS c a->P a (iM (down c) n a):=by
  intro n
  induction n with
  |zero=>intro a ha;exact h0 a ha
  |succ n ih =>
   intro a ha
   rw[iM]
   cases e:down c a with
   |none=>exact h0 a ha
   |some b=>exact h1 a b _ e (ih b (kl e).2)
 exact key 34 a ha
def fltS (s:Si):Flt:=⟨0,⟨s.node,Int.ofNat s.pin-1⟩,s.v,0⟩
theorem uY (n j v:Nat):fltS ⟨n,j+1,v⟩=⟨0,⟨n,Int.ofNat j⟩,v,0⟩:=by
 unfold fltS
 have:Int.ofNat (j+1)-1=Int.ofNat j:=by simp only[Int.ofNat_eq_natCast];omega
 dsimp only
 rw[this]
theorem xr {c:Circ}{s:Si} (h:VS c s):StuckOk c (fltS s):=by
 have:=h.pin
 refine⟨rfl,h.v,rfl,h.node,?_,?_⟩
 ·unfold fltS;simp only[Int.ofNat_eq_natCast];omega
 ·unfold fltS;simp only[Int.ofNat_eq_natCast];omega
theorem lK {s t:Si} (h:fltS s=fltS t):s=t:=by
 obtain⟨n,p,v⟩:=s
 obtain⟨n',p',v'⟩:=t
 unfold fltS at h
 simp only[Flt.mk.injEq,LnZ.mk.injEq,Int.ofNat_eq_natCast,and_true,true_and] at h
 obtain⟨⟨rfl,h2⟩,rfl⟩:=h
 obtain rfl:p=p':=by omega
 rfl
theorem Ag {c:Circ}{f:Flt} (F:StuckOk c f):∃ s,VS c s/\f=fltS s:=by
 obtain⟨m,⟨n,p⟩,v,o⟩:=f
 have h1:=F.model
 have h2:=F.value
 have h3:=F.other
 have h4:=F.node
 have h5:=F.pin1
 have h6:=F.pin2
 dsimp only at h1 h2 h3 h4 h5 h6
 subst h1 h3
 refine⟨⟨n,(p+1).toNat,v⟩,⟨h4,?_,h2⟩,?_⟩
 ·simp only[Int.ofNat_eq_natCast] at h6
  dsimp only;omega
 ·unfold fltS
  simp only[Flt.mk.injEq,LnZ.mk.injEq,Int.ofNat_eq_natCast,and_true,true_and]
  omega
end Go.Proofs.YtobphhjcadjfjaaDoor
