/-
  Proved here: for every input, 'TracesDetected' returns true, ends, panics nowhere, and its arguments read behind the call as they read before.
  Conditions: those of the given card alone ('Rows.TracesDetectedCardSaid'): the variable logic.fanins holds what the row lists, which the card ties to the program's text; no other.
-/
import Derived.Test.YtmhbhclfojmjdaaGreatDoorTd52
import Derived.Test.YtmhbhclfojmjdaaGreatDoorCards
namespace Go.Proofs.YtmhbhclfojmjdaaGreatDoor
open Go.Abs
set_option maxRecDepth 100000
theorem containsI_vc {l:List Nat}{x:Nat}{K:Bool→Prop} (hl:l.length<2 ^ 60) (h:K (l.contains x)):sl_ContainsI_wp l x K:=by
 unfold sl_ContainsI_wp sl_IndexI_wp
 have hc:l.contains x=l.any fun v=>x==v:=by rw[List.contains_eq_any_beq]
 rw[hc] at h
 refine find_vc (l:=l) (p:=fun v=>x==v) (K:=fun r=>K (!ltI r (Int.ofNat 0))) hl ?_ ?_ (fun i e=>?_) (fun e=>?_)
 ·intro k i nx y hy a b
  exact⟨fun _=>⟨y,hy,fun e=>a (by simpa using eq_t.1 e),fun e=>b (by simpa using eq_f.1 e)⟩,fun e=>absurd (lt_of_get hy) (by have:=lt_f.1 e;omega)⟩
 ·intro k i nx hi hk
  exact⟨fun e=>absurd (lt_t.1 e) (by omega),fun _=>hk⟩
 ·rw[nonneg_t]
  rw[any_find.1 i e] at h;exact h
 ·rw[any_find.2 e] at h;exact h
theorem takeG {α:Type}{l:List α}{i:Nat}{x:α} (h:l[i]?=some x):l.take (i+1)=l.take i++[x]:=by
 obtain⟨h1,rfl⟩:=List.getElem?_eq_some_iff.1 h
 exact List.take_succ_eq_append_getElem h1
theorem fan_mem {c:Circ}{m k j:Nat}:(⟨k,j⟩:Ln)∈fanOf c m↔(insOf c k)[j]?=some m:=by
 unfold fanOf
 rw[List.mem_flatMap]
 constructor
 ·rintro⟨⟨y,i⟩,h1,h2⟩
  have h1:=List.mem_zipIdx_iff_getElem?.1 h1
  unfold fanNode at h2
  obtain⟨⟨a,b⟩,h3,h4⟩:=List.mem_map.1 h2
  obtain⟨h5,h6⟩:=List.mem_filter.1 h3
  have h7:=List.mem_zipIdx_iff_getElem?.1 h5
  clear h5
  dsimp only at h1 h4 h7 h6
  cases h4
  have h6:a=m:=by simpa using h6
  subst h6
  rw[insOf_eq h1]
  exact h7
 ·intro h
  obtain⟨x,hx,hj⟩:=insOf_node h
  refine⟨⟨x,k⟩,List.mem_zipIdx_iff_getElem?.2 hx,?_⟩
  unfold fanNode
  exact List.mem_map.2 ⟨⟨m,j⟩,List.mem_filter.2 ⟨List.mem_zipIdx_iff_getElem?.2 hj,by simp⟩,rfl⟩
theorem fan_nodup (c:Circ) (m:Nat):(fanOf c m).Nodup:=by
 unfold fanOf
 refine List.pairwise_flatMap.2 ⟨fun p _=>?_,?_⟩
 ·unfold fanNode
  refine List.pairwise_map.2 (List.Pairwise.filter _ ?_)
  refine List.pairwise_iff_getElem.2 fun i j h1 h2 h3=>?_
  simp only[List.getElem_zipIdx]
  intro e
  have:=congrArg Ln.pin e
  simp only at this
  omega
 ·refine List.pairwise_iff_getElem.2 fun i j h1 h2 h3=>?_
  simp only[List.getElem_zipIdx]
  intro x hx y hy e
  unfold fanNode at hx hy
  obtain⟨a,_,rfl⟩:=List.mem_map.1 hx
  obtain⟨b,_,rfl⟩:=List.mem_map.1 hy
  have:=congrArg Ln.node e
  simp only at this
  omega
def manyN (c:Circ) (m:Nat):Nat:=(fanOf c m).length+c.outs.count m
def manyL (c:Circ):List Nat:=(List.range c.nodes.length).map (manyN c)
theorem one_of {c:Circ}{m k j:Nat} (h:manyN c m=1) (hp:(insOf c k)[j]?=some m):One c m k j:=by
 have hm:=fan_mem.2 hp
 have hl:=List.length_pos_of_mem hm
 unfold manyN at h
 refine⟨hp,fun k' j' hp'=>?_,fun ho=>?_⟩
 ·obtain⟨a,ha⟩:=List.length_eq_one_iff.1 (show (fanOf c m).length=1 by omega)
  have h1:=fan_mem.2 hp'
  rw[ha,List.mem_singleton] at hm h1
  rw[← hm] at h1
  exact⟨congrArg Ln.node h1,congrArg Ln.pin h1⟩
 ·have:=List.count_pos_iff.2 ho
  omega
theorem many_zero {c:Circ}{m:Nat} (h:manyN c m=0):(∀ k j:Nat,(insOf c k)[j]?≠some m)∧m ∉ c.outs:=by
 unfold manyN at h
 refine⟨fun k j q=>?_,fun q=>?_⟩
 ·have:=List.length_pos_of_mem (fan_mem.2 q);omega
 ·have:=List.count_pos_iff.2 q;omega
theorem fanZ_get {c:Circ}{x:Nat} (h:x<c.nodes.length):(fanZ c)[x]?=some ((fanOf c x).map Ln.toZ):=by
 unfold fanZ
 rw[List.getElem?_map,fanL_get h]
 rfl
theorem fanZ_len (c:Circ):(fanZ c).length=c.nodes.length:=by unfold fanZ fanL;simp
theorem manyL_get {c:Circ}{x:Nat} (h:x<c.nodes.length):(manyL c)[x]?=some (manyN c x):=by
 unfold manyL
 rw[List.getElem?_map,List.getElem?_range h]
 rfl
theorem ext_getD {l m:List Nat} (h1:l.length=m.length) (h:∀ i,i<l.length→l.getD i 0=m.getD i 0):l=m:=by
 refine List.ext_getElem h1 fun i a b=>?_
 have:=h i a
 rw[List.getD,List.getElem?_eq_getElem a,List.getD,List.getElem?_eq_getElem b] at this
 exact this
theorem loads_wp_vc {c:Circ} (C:Cir c) {K:List (List LnZ)×List Nat→Prop} (h:K (fanZ c,manyL c)):traces_loads_wp c K:=by
 have hlen:=C.len
 have hol:=C.good.outsLen
 unfold traces_loads_wp
 refine⟨C.good.fanOk,by omega,by omega,?_⟩
 refine joinLoop (fun s=>s.2≤c.nodes.length∧s.1.length=c.nodes.length∧∀ i,i<s.2→s.1.getD i 0=(fanOf c i).length) (fun s=>c.nodes.length-s.2) (fun t=>t.length=c.nodes.length∧∀ i,i<c.nodes.length→t.getD i 0=(fanOf c i).length) ?_ ⟨Nat.zero_le _,by simp,fun i hi=>absurd hi (Nat.not_lt_zero _)⟩ ?_
 ·rintro k ⟨t,i⟩ nx ⟨hi,hl,hv⟩ hnx hk
  dsimp only at hi hl hv
  refine⟨fun q=>?_,fun q=>hk _ ⟨hl,fun i' hi'=>hv i' ?_⟩⟩
  ·have q:i<c.nodes.length:=by have:=lt_t.1 q;rwa [fanZ_len] at this
   refine⟨_,fanZ_get q,q,_,getN hl q,by omega,hnx _ ⟨q,by simp[hl],fun i' hi'=>?_⟩ (by dsimp only;omega)⟩
   dsimp only
   rw[getD_set (by omega)]
   by_cases e:i=i'
   ·subst e;rw[if_pos rfl,List.length_map]
   ·rw[if_neg e];exact hv i' (by dsimp only at hi';omega)
  ·have q:c.nodes.length≤i:=by have:=lt_f.1 q;rwa [fanZ_len] at this
   omega
 rintro t ⟨hl,hv⟩
 refine joinLoop (fun s=>s.2≤c.outs.length∧s.1.length=c.nodes.length∧∀ i,i<c.nodes.length→s.1.getD i 0=(fanOf c i).length+(c.outs.take s.2).count i) (fun s=>c.outs.length-s.2) (fun t=>t=manyL c) ?_ ⟨Nat.zero_le _,hl,fun i hi=>by simpa using hv i hi⟩ ?_
 ·rintro k ⟨t,i⟩ nx ⟨hi,hl,hv⟩ hnx hk
  dsimp only at hi hl hv
  refine⟨fun q=>?_,fun q=>hk _ ?_⟩
  ·have q:i<c.outs.length:=lt_t.1 q
   obtain⟨o,ho⟩:=get_lt q
   have hon:o<c.nodes.length:=C.good.outs o (List.mem_of_getElem? ho)
   have b1:(fanOf c o).length≤1000:=fan_len C.good hon
   have b2:(c.outs.take i).count o≤16:=Nat.le_trans List.count_le_length (by rw[List.length_take];omega)
   have:=hv o hon
   refine⟨o,ho,hon,_,getN hl hon,by omega,hon,_,getN hl hon,by omega,hnx _ ⟨q,by simp[hl],fun i' hi'=>?_⟩ (by dsimp only;omega)⟩
   dsimp only
   rw[getD_set (by omega),takeG ho,List.count_append,List.count_singleton]
   by_cases e:o=i'
   ·subst e;rw[if_pos rfl,this];simp;omega
   ·rw[if_neg e,hv i' hi'];simp[e]
  ·have q:c.outs.length≤i:=lt_f.1 q
   refine ext_getD (by unfold manyL;simp[hl]) fun i' hi'=>?_
   rw[List.take_of_length_le q] at hv
   rw[hl] at hi'
   rw[hv i' hi',List.getD,manyL_get hi']
   rfl
 ·rintro _ rfl
  exact⟨by unfold manyL;simp,h⟩
def rowL (c:Circ) (i:Nat):List LnZ:=(List.range ((insOf c i).length+1)).map fun j=>⟨i,Int.ofNat j-Int.ofNat 1⟩
def linesTo (c:Circ) (i:Nat):List LnZ:=(List.range i).flatMap (rowL c)
def linesN (c:Circ):List LnZ:=linesTo c c.nodes.length
theorem linesTo_succ (c:Circ) (i:Nat):linesTo c (i+1)=linesTo c i++rowL c i:=by
 unfold linesTo
 rw[List.range_succ,List.flatMap_append]
 simp
theorem linesTo_len {c:Circ} (C:Cir c):∀ i,i≤c.nodes.length→(linesTo c i).length≤i*17
 |0,_=>by unfold linesTo;simp
 |i+1,h=>by
  have:=linesTo_len C i (by omega)
  obtain⟨x,hx⟩:=get_lt (show i<c.nodes.length from h)
  have:=(C.good.node i x hx).few
  rw[linesTo_succ,List.length_append]
  unfold rowL
  rw[List.length_map,List.length_range,insOf_eq hx]
  omega
theorem lines_vc {c:Circ} (C:Cir c) {K:List LnZ×Nat→Prop} (h:K (linesN c,0)):faults_Lines_wp c K:=by
 have hlen:=C.len
 unfold faults_Lines_wp
 refine valid_vc C ⟨(fun q=>absurd rfl (ne_t.1 q)),fun _=>?_⟩
 refine joinLoop (fun s=>s.2≤c.nodes.length∧s.1=linesTo c s.2) (fun s=>c.nodes.length-s.2) (fun l=>l=linesN c) ?_ ⟨Nat.zero_le _,rfl⟩ (fun _ e=>e ▸ h)
 rintro k ⟨l,i⟩ nx ⟨hi,hl⟩ hnx hk
 dsimp only at hi hl
 refine⟨fun q=>?_,fun q=>hk _ ?_⟩
 ·have q:i<c.nodes.length:=lt_t.1 q
  obtain⟨x,hx⟩:=get_lt q
  have hfew:=(C.good.node i x hx).few
  have hll:=linesTo_len C i hi
  refine joinP (fun r=>r=linesTo c (i+1)) (fun k2 hk2=>⟨x,hx,by omega,?_⟩) ?_
  ·refine loopW_intro (fun s=>s.2≤x.ins.length+1∧s.1=linesTo c i++(rowL c i).take s.2) (fun s=>x.ins.length+1-s.2) ?_ ⟨Nat.zero_le _,by simp[hl]⟩
   rintro⟨l,j⟩ nx ⟨hj,hl⟩ hnx
   dsimp only at hj hl
   refine⟨fun q=>?_,fun q=>hk2 _ ?_⟩
   ·have q:j<x.ins.length+1:=lt_t.1 q
    have hg:(rowL c i)[j]?=some ⟨i,Int.ofNat j-Int.ofNat 1⟩:=by
     unfold rowL
     rw[List.getElem?_map,insOf_eq hx,List.getElem?_range q]
     rfl
    have hb:((rowL c i).take j).length≤17:=by
     rw[List.length_take];omega
    refine⟨by simp only[Int.ofNat_eq_natCast];omega,by simp only[Int.ofNat_eq_natCast];omega,?_,by omega,hnx _ ⟨q,?_⟩ (by dsimp only;omega)⟩
    ·rw[hl,List.length_append,List.length_singleton];omega
    ·dsimp only
     rw[hl,List.append_assoc,takeG hg]
   ·have q:x.ins.length+1≤j:=lt_f.1 q
    rw[hl,linesTo_succ,List.take_of_length_le]
    unfold rowL
    rw[List.length_map,List.length_range,insOf_eq hx]
    exact q
  ·rintro _ rfl
   exact⟨by omega,hnx _ ⟨q,rfl⟩ (by dsimp only;omega)⟩
 ·have q:c.nodes.length≤i:=lt_f.1 q
  have e:i=c.nodes.length:=by omega
  subst e
  exact hl
structure Plz (c:Circ):Prop where
 cir:Cir c
 kinds:∀ (i:Nat) (x:Node),c.nodes[i]?=some x→x.kind≠12∧x.kind≠13
structure Full (c:Circ) (p:Pat):Prop where
 pat:PatOk c p
 inp:∀ v∈p.inp,v≤1
 state:∀ v∈p.state,v≤1
theorem tplain_vc {c:Circ} (P:Plz c) {K:Nat→Prop} (h:K 0):traces_plain_wp c K:=by
 have C:=P.cir
 have hlen:=C.len
 unfold traces_plain_wp
 refine lines_vc C ⟨(fun q=>absurd rfl (ne_t.1 q)),fun _=>of_vc (by omega) (by decide) ⟨fun q=>?_,fun _=>h⟩⟩
 have:ofN c [12,13]=[]:=by
  refine List.eq_nil_iff_forall_not_mem.2 fun i m=>?_
  unfold ofN at m
  obtain⟨h1,h2⟩:=List.mem_filter.1 m
  have h1:=List.mem_range.1 h1
  obtain⟨x,hx⟩:=get_lt h1
  have e:(c.nodes.map Node.kind).getD i 0=x.kind:=kd_eq hx
  rw[e] at h2
  have:=P.kinds i x hx
  simp at h2
  omega
 rw[this] at q
 exact absurd (lt_t.1 q) (Nat.not_lt_zero _)
theorem cfull_vc {l:List Nat}{K:Bool→Prop} (hl:l.length<2 ^ 60) (hv:∀ v∈l,v≤1) (h:K false):cf_tracesFull_wp l K:=by
 unfold cf_tracesFull_wp cf_tracesFullI_wp
 refine search_none (l:=l) ?_ ?_ h
 ·intro k i nx x hx hi hn
  have hv:=hv x (List.mem_of_getElem? hx)
  refine⟨fun _=>⟨x,hx,known_vc ?_⟩,fun q=>?_⟩
  ·rw[decide_eq_true hv]
   exact⟨(fun e=>by cases e),fun _=>⟨by omega,hn⟩⟩
  ·have:=lt_f.1 q;omega
 ·intro k i nx hi hk
  refine⟨fun q=>?_,fun _=>hk⟩
  have:=lt_t.1 q;omega
theorem simsCheck_vc {c:Circ} (C:Cir c) {p:Pat} (hp:PatOk c p) {K:Nat→Prop} (h:K 0):sims_Check_wp c p K:=by
 unfold sims_Check_wp
 exact check_vc C.good ⟨(fun q=>absurd rfl (ne_t.1 q)),fun _=>fits_vc C hp h⟩
theorem tfull_vc {c:Circ} (C:Cir c) {p:Pat} (F:Full c p) {K:Nat→Prop} (h:K 0):traces_full_wp c p K:=by
 have hlen:=C.len
 have l1:=ofN_len c [0]
 have l2:=ofN_len c [14]
 have h1:=F.pat.inp
 have h2:=F.pat.state
 unfold traces_full_wp
 refine simsCheck_vc C F.pat ⟨(fun q=>absurd rfl (ne_t.1 q)),fun _=>?_⟩
 exact joinB' (a:=false) (fun G=>cfull_vc (by omega) F.inp ⟨(fun e=>by cases e),fun _=>cfull_vc (by omega) F.state G⟩) ⟨(fun e=>by cases e),fun _=>h⟩
theorem evalN_bin {k:Nat}{l:List Nat} (hk0:1≤k) (hk:k<12) (h:∀ v∈l,v≤1):evalN k l≤1:=by
 have g:∀ i,l.getD i 0≤1:=by
  intro i
  by_cases q:i<l.length
  ·exact h _ (getD_mem q)
  ·rw[List.getD,List.getElem?_eq_none (by omega)];exact Nat.zero_le _
 have hn:∀ v,v≤1→notN v≤1:=fun v hv=>by unfold notN;split <;> omega
 have hd:∀ (low high:Nat) (l:List Nat),low+high=1→(∀ v∈l,v≤1)→∀ o,o≤1→decN low high l o≤1:=by
  intro low high l hs
  induction l with
  |nil=>intro _ o ho;exact ho
  |cons v r ih =>
   intro hv o ho
   have h1:=hv v (.head _)
   unfold decN
   split
   ·omega
   ·rw[if_pos (by omega)]
    exact ih (fun v m=>hv v (.tail _ m)) o ho
 have hx:∀ (l:List Nat),(∀ v∈l,v≤1)→∀ o,o≤1→xorN l o≤1:=by
  intro l
  induction l with
  |nil=>intro _ o ho;exact ho
  |cons v r ih =>
   intro hv o ho
   have h1:=hv v (.head _)
   unfold xorN
   rw[if_pos h1]
   refine ih (fun v m=>hv v (.tail _ m)) _ ?_
   have q1:o=0∨o=1:=by omega
   have q2:v=0∨v=1:=by omega
   rcases q1 with rfl|rfl <;> rcases q2 with rfl|rfl <;> decide
 have g0:=g 0
 have g1:=g 1
 have g2:=g 2
 unfold evalN
 split;· omega
 split;· omega
 split;· omega
 split;· exact hn _ g0
 split;· exact hd 0 1 l rfl h 1 (by decide)
 split;· exact hn _ (hd 0 1 l rfl h 1 (by decide))
 split;· exact hd 1 0 l rfl h 0 (by decide)
 split;· exact hn _ (hd 1 0 l rfl h 0 (by decide))
 split;· exact hx l h 0 (by decide)
 split;· exact hn _ (hx l h 0 (by decide))
 split
 ·unfold muxN
  repeat' split
  all_goals omega
 ·omega
theorem V_bin {c:Circ} (P:Plz c) {p:Pat} (F:Full c p):∀ i,(valV c p).getD i 0≤1:=by
 have C:=P.cir
 have V:=V_sol C F.pat
 have key:∀ n i,i<n→(valV c p).getD i 0≤1:=by
  intro n
  induction n with
  |zero=>intro i h;omega
  |succ n ih =>
   intro i hi
   by_cases q:i<c.nodes.length
   ·obtain⟨x,hx⟩:=get_lt q
    rw[V.val i x hx]
    unfold idN
    cases hc:combB x.kind with
    |true =>
     rw[comb_base hc]
     have hc':=of_decide_eq_true hc
     have:=P.kinds i x hx
     unfold evalG
     rw[if_neg (by omega),if_neg (by omega)]
     refine evalN_bin hc'.1 (by omega) fun v hv=>?_
     unfold readV idP at hv
     rw[List.mem_mapIdx] at hv
     obtain⟨a,ha,rfl⟩:=hv
     exact ih _ (by have:=ins_lt C hx hc (List.getElem_mem ha);omega)
    |false =>
     rw[noncomb_base hc]
     have k2:∀ (l:List Nat) (j:Nat),(∀ v∈l,v≤1)→l.getD j 0≤1:=by
      intro l j h
      by_cases q:j<l.length
      ·exact h _ (getD_mem q)
      ·rw[List.getD,List.getElem?_eq_none (by omega)];exact Nat.zero_le _
     unfold srcV
     split
     ·exact k2 _ _ F.inp
     split
     ·exact k2 _ _ F.state
     ·omega
   ·rw[List.getD,List.getElem?_eq_none (by rw[V.len];omega)];exact Nat.zero_le _
 exact fun i=>key (i+1) i (by omega)
def chgL (t ins:List Nat) (j:Nat):List Nat:=ins.mapIdx fun i y=>if i=j then notN (t.getD y 0) else t.getD y 0
def chgB (c:Circ) (t:List Nat) (k j:Nat):Bool:=neN (evalG (kd c k) (chgL t (insOf c k) j)) (t.getD k 0)
def critN (c:Circ) (p:Pat) (m:Nat):Bool:=detN c p m (notN ((valV c p).getD m 0))
def critP (c:Circ) (p:Pat) (k j:Nat):Bool:=detP c p k j (notN ((valV c p).getD ((insOf c k).getD j 0) 0))
def netOf (c:Circ) (l:LnZ):Nat:=if l.pin<0 then l.node else (insOf c l.node).getD l.pin.toNat 0
theorem netOf_net (c:Circ) (m:Nat):netOf c ⟨m,Int.negSucc 0⟩=m:=by
 unfold netOf
 dsimp only
 rw[if_pos (show Int.negSucc 0<0 by decide)]
theorem netOf_pin (c:Circ) (k j:Nat):netOf c ⟨k,Int.ofNat j⟩=(insOf c k).getD j 0:=by
 have h:¬ (Int.ofNat j<0):=Int.not_lt.2 (Int.natCast_nonneg j)
 unfold netOf
 dsimp only
 rw[if_neg h]
 rfl
def critL (c:Circ) (p:Pat) (l:LnZ):Bool:=detB c p ⟨0,l,notN ((valV c p).getD (netOf c l) 0),0⟩
theorem critL_net (c:Circ) (p:Pat) (m:Nat):critL c p ⟨m,Int.negSucc 0⟩=critN c p m:=by
 unfold critL
 rw[det_net]
 rfl
theorem critL_pin (c:Circ) (p:Pat) (k j:Nat):critL c p ⟨k,Int.ofNat j⟩=critP c p k j:=by
 unfold critL
 rw[det_pin]
 rw[netOf_pin]
 rfl
theorem readF_eq {t:List Nat}{k j y:Nat}{x:Node} (hj:x.ins[j]?=some y):readV (pinF k (Int.ofNat j) (notN (t.getD y 0))) t k x=chgL t x.ins j:=by
 unfold readV chgL
 refine List.ext_getElem (by simp) fun a b d=>?_
 simp only[List.getElem_mapIdx]
 unfold pinF
 have ha:a<x.ins.length:=by simpa using b
 by_cases e:a=j
 ·subst e
  rw[List.getElem?_eq_getElem ha] at hj
  cases hj
  rw[if_pos ⟨rfl,rfl⟩,if_pos rfl]
 ·rw[if_neg e,if_neg]
  rintro⟨_,q⟩
  exact e (Int.ofNat.inj q)
theorem getD_eq {l:List Nat}{j y:Nat} (h:l[j]?=some y):l.getD j 0=y:=by rw[List.getD,h];rfl
theorem notN_bin {v:Nat} (h:v≤1):notN v=1-v:=by unfold notN;rw[if_pos h]
theorem notN_3 (v:Nat):notN v≤3:=by unfold notN;split <;> omega
theorem chg_le {c:Circ} (P:Plz c) {p:Pat} (F:Full c p) {k j:Nat}{x:Node} (hx:c.nodes[k]?=some x) (hc:combB x.kind=true):evalG x.kind (chgL (valV c p) x.ins j)≤1:=by
 have hc':=of_decide_eq_true hc
 have:=P.kinds k x hx
 unfold evalG
 rw[if_neg (by omega),if_neg (by omega)]
 refine evalN_bin hc'.1 (by omega) fun v hv=>?_
 unfold chgL at hv
 rw[List.mem_mapIdx] at hv
 obtain⟨a,ha,rfl⟩:=hv
 have:=V_bin P F x.ins[a]
 split
 ·rw[notN_bin this];omega
 ·exact this
theorem critP_gate {c:Circ} (P:Plz c) {p:Pat} (F:Full c p) {k j y:Nat}{x:Node} (hx:c.nodes[k]?=some x) (hc:combB x.kind=true) (hj:x.ins[j]?=some y):critP c p k j=(chgB c (valV c p) k j&&critN c p k):=by
 have C:=P.cir
 have hp:=F.pat
 have e1:(insOf c k).getD j 0=y:=by rw[insOf_eq hx];exact getD_eq hj
 have hu:=chg_le P F (j:=j) hx hc
 have hv:=V_bin P F k
 unfold critP critN chgB
 rw[e1,pin_gate C hp (notN_3 _) hx hc,readF_eq hj,kd_eq hx,insOf_eq hx]
 by_cases e:evalG x.kind (chgL (valV c p) x.ins j)=(valV c p).getD k 0
 ·rw[e,detN_same C hp,ne_f.2 rfl]
  rfl
 ·have:evalG x.kind (chgL (valV c p) x.ins j)=notN ((valV c p).getD k 0):=by rw[notN_bin hv];omega
  rw[ne_t.2 e,this,Bool.true_and]
theorem con_not {v:Nat} (h:v≤1):Con v (notN v):=by rw[notN_bin h];exact⟨h,by omega,by omega⟩
theorem critP_dff {c:Circ} (P:Plz c) {p:Pat} (F:Full c p) {k j:Nat}{x:Node} (hx:c.nodes[k]?=some x) (hk:x.kind=14) (hj:j<x.ins.length):critP c p k j=true:=by
 have C:=P.cir
 obtain⟨y,hy,_,hd,hl⟩:=dff_pin C (c:=c) (s:=k) (ofN_mem.2 ⟨lt_of_get hx,by rw[kd_eq hx];exact hk⟩)
 rw[hx] at hy;cases hy
 have j0:j=0:=by omega
 subst j0
 have hv:=V_bin P F (dOf c k)
 have e:(insOf c k).getD 0 0=dOf c k:=rfl
 unfold critP
 rw[e,detP_state C F.pat (notN_3 _) hx hk,decide_eq_true_eq,notN_bin hv]
 exact⟨by omega,by omega,by omega⟩
theorem critN_out {c:Circ} (P:Plz c) {p:Pat} (F:Full c p) {m:Nat} (h:m∈c.outs):critN c p m=true :=
 net_out P.cir F.pat (notN_3 _) (P.cir.good.outs m h) h (con_not (V_bin P F m))
theorem critN_dff {c:Circ} (P:Plz c) {p:Pat} (F:Full c p) {k j m:Nat} (hk:kd c k=14) (h:(insOf c k)[j]?=some m):critN c p m=true:=by
 have C:=P.cir
 obtain⟨x,hx,hj⟩:=insOf_node h
 have hs:k∈ofN c [14]:=ofN_mem.2 ⟨lt_of_get hx,hk⟩
 obtain⟨y,hy,_,hd,hl⟩:=dff_pin C hs
 rw[hx] at hy;cases hy
 have j0:j=0:=by have:=lt_of_get hj;omega
 subst j0
 rw[hd] at h
 cases h
 exact net_state C F.pat (notN_3 _) hs (con_not (V_bin P F _))
theorem critN_one {c:Circ} (P:Plz c) {p:Pat} (F:Full c p) {m k j:Nat} (h:One c m k j) (hm:m<c.nodes.length):critN c p m=critP c p k j:=by
 unfold critN critP
 rw[getD_eq h.pin]
 exact net_one P.cir F.pat (notN_3 _) h hm
theorem critN_none {c:Circ} (P:Plz c) {p:Pat} (F:Full c p) {m:Nat} (h:manyN c m=0) (hm:m<c.nodes.length):critN c p m=false :=
 net_none P.cir F.pat (notN_3 _) hm (many_zero h).1 (many_zero h).2
theorem pin_comb {c:Circ} (P:Plz c) {k j m:Nat}{x:Node} (hx:c.nodes[k]?=some x) (hj:x.ins[j]?=some m) (hk:x.kind≠14):combB x.kind=true:=by
 refine decide_eq_true ?_
 have:=P.cir.kinds k x hx
 by_cases e:x.kind=0
 ·have ha:=(P.cir.good.node k x hx).arity
  rw[e] at ha
  have:hiZ 0=0:=by decide
  have q:=ha.2
  rw[this] at q
  have:=lt_of_get hj
  simp only[Int.ofNat_eq_natCast] at q
  omega
 ·omega
inductive Rch (c:Circ) (t:List Nat) (s:Nat):Nat→Prop
 |base:Rch c t s s
 |step {k j m:Nat} {x:Node}:Rch c t s k→c.nodes[k]?=some x→combB x.kind=true→x.ins[j]?=some m→chgB c t k j=true→manyN c m=1→Rch c t s m
def startB (c:Circ) (p:Pat) (n:Nat):Bool:=(c.outs.contains n||(decide (1<manyN c n)&&critN c p n))||(fanOf c n).any fun l=>kd c l.node==14
def InW (c:Circ) (t:List Nat) (s:Nat) (l:LnZ):Prop:=Rch c t s l.node∧(l.pin=Int.negSucc 0∨∃ j x,l.pin=Int.ofNat j∧c.nodes[l.node]?=some x∧combB x.kind=true∧j<x.ins.length∧chgB c t l.node j=true)
theorem Rch.le {c:Circ} (C:Cir c) {t:List Nat}{s m:Nat} (h:Rch c t s m):m≤s:=by
 induction h with
 |base=>exact Nat.le_refl _
 |step _ hx hc hj _ _ ih=>have:=ins_lt C hx hc (List.mem_of_getElem? hj);omega
theorem Rch.lt {c:Circ} (C:Cir c) {t:List Nat}{s m:Nat} (hs:s<c.nodes.length) (h:Rch c t s m):m<c.nodes.length:=Nat.lt_of_le_of_lt (h.le C) hs
theorem not_start {c:Circ}{p:Pat}{k j m:Nat}{x:Node} (hx:c.nodes[k]?=some x) (hc:combB x.kind=true) (hj:x.ins[j]?=some m) (h1:manyN c m=1):startB c p m=false:=by
 have o:=one_of h1 (by rw[insOf_eq hx];exact hj)
 unfold startB
 have a1:c.outs.contains m=false:=by
  rw[Bool.eq_false_iff]
  intro q
  exact o.outs (List.contains_iff_mem.1 q)
 have a2:(fanOf c m).any (fun l=>kd c l.node==14)=false:=by
  rw[List.any_eq_false]
  rintro⟨a,b⟩ hm q
  have q:kd c a=14:=by simpa using q
  obtain⟨rfl,rfl⟩:=o.only a b (fan_mem.1 hm)
  rw[kd_eq hx] at q
  have:=of_decide_eq_true hc
  omega
 rw[a1,a2,h1]
 rfl
theorem Rch.uniq {c:Circ}{p:Pat}{t:List Nat}{s s' m:Nat} (hs:startB c p s=true) (hs':startB c p s'=true) (h:Rch c t s m):Rch c t s' m→s=s':=by
 induction h with
 |base =>
  intro h'
  cases h' with
  |base=>rfl
  |step _ hx hc hj _ h1=>rw[not_start hx hc hj h1] at hs;cases hs
 |step hr hx hc hj _ h1 ih =>
  intro h'
  cases h' with
  |base=>rw[not_start hx hc hj h1] at hs';cases hs'
  |step hr' hx' hc' hj' _ _ =>
   have o:=one_of h1 (by rw[insOf_eq hx];exact hj)
   have:=(o.only _ _ (by rw[insOf_eq hx'];exact hj')).1
   subst this
   exact ih hr'
theorem start_crit {c:Circ} (P:Plz c) {p:Pat} (F:Full c p) {s:Nat} (h:startB c p s=true):critN c p s=true:=by
 unfold startB at h
 rw[Bool.or_eq_true,Bool.or_eq_true,Bool.and_eq_true] at h
 rcases h with (h|h) | h
 ·exact critN_out P F (List.contains_iff_mem.1 h)
 ·exact h.2
 ·obtain⟨⟨a,b⟩,hm,q⟩:=List.any_eq_true.1 h
  exact critN_dff P F (by simpa using q) (fan_mem.1 hm)
theorem Rch.crit {c:Circ} (P:Plz c) {p:Pat} (F:Full c p) {s m:Nat} (hs:critN c p s=true) (h:Rch c (valV c p) s m):critN c p m=true:=by
 induction h with
 |base=>exact hs
 |step hr hx hc hj hg h1 ih =>
  have o:=one_of h1 (by rw[insOf_eq hx];exact hj)
  have hm:=(P.cir.good.node _ _ hx).ins _ (List.mem_of_getElem? hj)
  rw[critN_one P F o hm,critP_gate P F hx hc hj,hg,ih]
  rfl
theorem crit_cover {c:Circ} (P:Plz c) {p:Pat} (F:Full c p):∀ n m,m<c.nodes.length→c.nodes.length-m≤n→critN c p m=true→∃ s,s<c.nodes.length∧startB c p s=true∧Rch c (valV c p) s m:=by
 have C:=P.cir
 intro n
 induction n with
 |zero=>intro m h1 h2;omega
 |succ n ih =>
  intro m hm hn hcr
  by_cases hs:startB c p m=true
  ·exact⟨m,hm,hs,.base⟩
  have hs0:=hs
  unfold startB at hs
  rw[Bool.or_eq_true,Bool.or_eq_true,Bool.and_eq_true,not_or,not_or] at hs
  obtain⟨⟨a1,a2⟩,a3⟩:=hs
  have h1:¬ 1<manyN c m:=fun q=>a2 ⟨decide_eq_true q,hcr⟩
  have h0:manyN c m≠0:=fun q=>by rw[critN_none P F q hm] at hcr;cases hcr
  have h1:manyN c m=1:=by omega
  have ho:m ∉ c.outs:=fun q=>a1 (List.contains_iff_mem.2 q)
  have hf:(fanOf c m).length=1:=by
   unfold manyN at h1
   rw[List.count_eq_zero.2 ho] at h1
   exact h1
  obtain⟨⟨k,j⟩,hl⟩:=List.length_eq_one_iff.1 hf
  have hmem:(⟨k,j⟩:Ln)∈fanOf c m:=by rw[hl];exact .head _
  have hpin:=fan_mem.1 hmem
  obtain⟨x,hx,hj⟩:=insOf_node hpin
  have hk:x.kind≠14:=fun q=>a3 (List.any_eq_true.2 ⟨_,hmem,by rw[kd_eq hx,q];rfl⟩)
  have hc:=pin_comb P hx hj hk
  have o:=one_of h1 hpin
  have:=ins_lt C hx hc (List.mem_of_getElem? hj)
  rw[critN_one P F o hm,critP_gate P F hx hc hj,Bool.and_eq_true] at hcr
  obtain⟨s,hsn,hss,hr⟩:=ih k (lt_of_get hx) (by omega) hcr.2
  exact⟨s,hsn,hss,hr.step hx hc hj hcr.1 h1⟩
def PartW (c:Circ) (p:Pat) (m:Nat) (l:LnZ):Prop:=(l∈(fanOf c m).map Ln.toZ∧kd c l.node=14)∨(startB c p m=true∧InW c (valV c p) m l)
theorem toZ_mem {c:Circ}{m:Nat}{l:LnZ}:l∈(fanOf c m).map Ln.toZ ↔ ∃ j,l.pin=Int.ofNat j∧(insOf c l.node)[j]?=some m:=by
 rw[List.mem_map]
 constructor
 ·rintro⟨⟨a,b⟩,h,rfl⟩
  exact⟨b,rfl,fan_mem.1 h⟩
 ·rintro⟨j,h1,h2⟩
  refine⟨⟨l.node,j⟩,fan_mem.2 h2,?_⟩
  obtain⟨a,b⟩:=l
  dsimp only at h1
  subst h1
  rfl
theorem part_uniq {c:Circ}{p:Pat}{m m':Nat}{l:LnZ} (h:PartW c p m l) (h':PartW c p m' l):m=m':=by
 have mix:∀ {a b:Nat},(l∈(fanOf c a).map Ln.toZ∧kd c l.node=14)→InW c (valV c p) b l→False:=by
  rintro a b ⟨h1,h2⟩ ⟨_,h3⟩
  obtain⟨j,e,_⟩:=toZ_mem.1 h1
  rcases h3 with h3|⟨j',x,h3,hx,hc,_⟩
  ·rw[e] at h3;cases h3
  ·rw[kd_eq hx] at h2
   have:=of_decide_eq_true hc
   omega
 rcases h with⟨h1,h2⟩|⟨h1,h2⟩ <;> rcases h' with⟨h3,h4⟩|⟨h3,h4⟩
 ·obtain⟨j,e,g⟩:=toZ_mem.1 h1
  obtain⟨j',e',g'⟩:=toZ_mem.1 h3
  rw[e] at e'
  cases e'
  rw[g] at g'
  exact Option.some.inj g'
 ·exact (mix ⟨h1,h2⟩ h4).elim
 ·exact (mix ⟨h3,h4⟩ h2).elim
 ·exact Rch.uniq h1 h3 h2.1 h4.1
theorem line_mem {c:Circ}{l:LnZ}:l∈linesN c↔l.node<c.nodes.length∧(l.pin=Int.negSucc 0∨∃ j,l.pin=Int.ofNat j∧j<(insOf c l.node).length):=by
 unfold linesN linesTo rowL
 rw[List.mem_flatMap]
 constructor
 ·rintro⟨i,hi,h⟩
  obtain⟨j,hj,rfl⟩:=List.mem_map.1 h
  have hi:=List.mem_range.1 hi
  have hj:=List.mem_range.1 hj
  refine⟨hi,?_⟩
  cases j with
  |zero=>exact .inl rfl
  |succ j=>exact .inr ⟨j,by simp only[Int.ofNat_eq_natCast];omega,by dsimp only;omega⟩
 ·obtain⟨n,q⟩:=l
  rintro⟨h1,h2⟩
  dsimp only at h1 h2
  refine⟨n,List.mem_range.2 h1,?_⟩
  rcases h2 with rfl|⟨j,rfl,hj⟩
  ·exact List.mem_map.2 ⟨0,List.mem_range.2 (by omega),rfl⟩
  ·exact List.mem_map.2 ⟨j+1,List.mem_range.2 (by omega),by simp only[Int.ofNat_eq_natCast,LnZ.mk.injEq,true_and];omega⟩
theorem inW_line {c:Circ} (P:Plz c) {p:Pat} (_F:Full c p) {s:Nat}{l:LnZ} (hs:s<c.nodes.length) (h:InW c (valV c p) s l):l∈linesN c:=by
 obtain⟨h1,h2⟩:=h
 refine line_mem.2 ⟨h1.lt P.cir hs,?_⟩
 rcases h2 with h2|⟨j,x,h2,hx,_,hj,_⟩
 ·exact .inl h2
 ·exact .inr ⟨j,h2,by rw[insOf_eq hx];exact hj⟩
theorem part_crit {c:Circ} (P:Plz c) {p:Pat} (F:Full c p) {l:LnZ}:(∃ m,m<c.nodes.length∧PartW c p m l)↔l∈linesN c∧critL c p l=true:=by
 have C:=P.cir
 constructor
 ·rintro⟨m,hm,h⟩
  rcases h with⟨h1,h2⟩|⟨h1,h2⟩
  ·obtain⟨j,e,g⟩:=toZ_mem.1 h1
   obtain⟨x,hx,hj⟩:=insOf_node g
   rw[kd_eq hx] at h2
   have hl:=lt_of_get hj
   refine⟨line_mem.2 ⟨lt_of_get hx,.inr ⟨j,e,by rw[insOf_eq hx];exact hl⟩⟩,?_⟩
   obtain⟨a,b⟩:=l
   dsimp only at e
   subst e
   rw[critL_pin]
   exact critP_dff P F hx h2 hl
  ·refine⟨inW_line P F hm h2,?_⟩
   obtain⟨h3,h4⟩:=h2
   have hcr:=Rch.crit P F (start_crit P F h1) h3
   obtain⟨a,b⟩:=l
   dsimp only at h3 h4 hcr
   rcases h4 with rfl|⟨j,x,rfl,hx,hc,hj,hg⟩
   ·rw[critL_net];exact hcr
   ·obtain⟨y,hy⟩:=get_lt hj
    rw[critL_pin,critP_gate P F hx hc hy,hg,hcr]
    rfl
 ·rintro⟨h1,h2⟩
  obtain⟨h3,h4⟩:=line_mem.1 h1
  obtain⟨a,b⟩:=l
  dsimp only at h3 h4
  rcases h4 with rfl|⟨j,rfl,hj⟩
  ·rw[critL_net] at h2
   obtain⟨s,hs,hss,hr⟩:=crit_cover P F _ a h3 (Nat.le_refl _) h2
   exact⟨s,hs,.inr ⟨hss,hr,.inl rfl⟩⟩
  ·obtain⟨x,hx⟩:=get_lt h3
   rw[insOf_eq hx] at hj
   obtain⟨y,hy⟩:=get_lt hj
   by_cases hk:x.kind=14
   ·have hyn:=(C.good.node a x hx).ins y (List.mem_of_getElem? hy)
    exact⟨y,hyn,.inl ⟨toZ_mem.2 ⟨j,rfl,by rw[insOf_eq hx];exact hy⟩,by rw[kd_eq hx];exact hk⟩⟩
   ·have hc:=pin_comb P hx hy hk
    rw[critL_pin,critP_gate P F hx hc hy,Bool.and_eq_true] at h2
    obtain⟨s,hs,hss,hr⟩:=crit_cover P F _ a h3 (Nat.le_refl _) h2.2
    exact⟨s,hs,.inr ⟨hss,hr,.inr ⟨j,x,rfl,hx,hc,hj,h2.1⟩⟩⟩
theorem changes_vc {c:Circ} (C:Cir c) {t:List Nat} (ht:t.length=c.nodes.length) {k:Nat}{x:Node} (hx:c.nodes[k]?=some x) (hc:combB x.kind=true) (j:Nat) {K:Bool→Prop} (h:K (chgB c t k j)):traces_changes_wp c t k j K:=by
 have g:=C.good.node k x hx
 have hfew:=g.few
 unfold traces_changes_wp
 refine joinP (fun l=>l=chgL t x.ins j) (fun k1 hk1=>⟨x,hx,?_⟩) ?_
 ·refine loopW_intro (fun s=>s.2≤x.ins.length∧s.1=(chgL t x.ins j).take s.2) (fun s=>x.ins.length-s.2) ?_ ⟨Nat.zero_le _,rfl⟩
  rintro⟨l,i⟩ nx ⟨hi,hl⟩ hnx
  dsimp only at hi hl
  refine⟨fun q=>?_,fun q=>hk1 _ ?_⟩
  ·have q:i<x.ins.length:=lt_t.1 q
   obtain⟨y,hy⟩:=get_lt q
   have hyn:=g.ins y (List.mem_of_getElem? hy)
   have hv:(chgL t x.ins j)[i]?=some (if i=j then notN (t.getD y 0) else t.getD y 0):=by
    unfold chgL
    rw[List.getElem?_mapIdx,hy]
    rfl
   have hll:l.length≤16:=by rw[hl,List.length_take];omega
   refine⟨y,hy,_,getN ht hyn,joinB' (a:=if i=j then notN (t.getD y 0) else t.getD y 0) (fun G=>⟨fun q=>not_vc ?_,fun q=>?_⟩) ⟨by simp only[List.length_cons,List.length_nil];omega,by omega,hnx _ ⟨q,?_⟩ (by dsimp only;omega)⟩⟩
   ·rw[if_pos (eq_t.1 q)] at G;exact G
   ·rw[if_neg (eq_f.1 q)] at G;exact G
   ·dsimp only
    rw[hl,takeG hv]
  ·have q:x.ins.length≤i:=lt_f.1 q
   rw[hl,List.take_of_length_le (by unfold chgL;rw[List.length_mapIdx];exact q)]
 ·rintro _ rfl
  refine⟨x,hx,evalNode C hx hc (by unfold chgL;rw[List.length_mapIdx]) ⟨_,getN ht (lt_of_get hx),?_⟩⟩
  unfold chgB at h
  rw[kd_eq hx,insOf_eq hx] at h
  exact h
theorem nodupLen {α:Type} [DecidableEq α]:∀ {l m:List α},l.Nodup→(∀ x∈l,x∈m)→l.length≤m.length
 |[],_,_,_=>Nat.zero_le _
 |a::l,m,hn,hs=>by
  obtain⟨h1,h2⟩:=List.nodup_cons.1 hn
  have ha:a∈m:=hs a (.head _)
  have:=nodupLen (m:=m.erase a) h2 fun x hx=>(List.mem_erase_of_ne (fun e=>h1 (by rw[← e];exact hx))).2 (hs x (.tail _ hx))
  rw[List.length_erase_of_mem ha] at this
  have:=List.length_pos_of_mem ha
  rw[List.length_cons]
  omega
theorem nodup_snoc {α:Type}{l:List α}{a:α}:(l++[a]).Nodup↔l.Nodup∧a ∉ l:=by
 rw[List.nodup_append]
 constructor
 ·rintro⟨h1,_,h3⟩
  exact⟨h1,fun m=>h3 a m a (.head _) rfl⟩
 ·rintro⟨h1,h2⟩
  refine⟨h1,List.pairwise_singleton _ _,fun x hx y hy e=>h2 ?_⟩
  rw[List.mem_singleton] at hy
  rw[← hy,← e];exact hx
structure Wk (c:Circ) (t:List Nat) (s:Nat) (out:List LnZ) (st:List Nat) (k j:Nat):Prop where
 nd:out.Nodup
 sub:∀ l∈out,InW c t s l
 snd:st.Nodup
 stn:∀ q∈st,(⟨q,Int.negSucc 0⟩:LnZ)∈out∧∀ i:Nat,(⟨q,Int.ofNat i⟩:LnZ) ∉ out
 root:(⟨s,Int.negSucc 0⟩:LnZ)∈out
 par:∀ m,(⟨m,Int.negSucc 0⟩:LnZ)∈out→m=s∨∃ a b,(insOf c a)[b]?=some m∧(⟨a,Int.ofNat b⟩:LnZ)∈out
 cls:∀ q,(⟨q,Int.negSucc 0⟩:LnZ)∈out→q ∉ st→∀ i x y,(q=k→i<j)→c.nodes[q]?=some x→combB x.kind=true→x.ins[i]?=some y→chgB c t q i=true→(⟨q,Int.ofNat i⟩:LnZ)∈out∧(manyN c y=1→(⟨y,Int.negSucc 0⟩:LnZ)∈out)
 free:∀ i,j≤i→(⟨k,Int.ofNat i⟩:LnZ) ∉ out
 kst:k ∉ st
 own:∀ q i,(⟨q,Int.ofNat i⟩:LnZ)∈out→(⟨q,Int.negSucc 0⟩:LnZ)∈out
theorem Wk.start {c:Circ}{t:List Nat}{s:Nat} (hs:s<c.nodes.length):Wk c t s [⟨s,Int.negSucc 0⟩] [s] c.nodes.length 0 where
 nd:=List.pairwise_singleton _ _
 sub l h:=by rw[List.mem_singleton] at h;subst h;exact⟨.base,.inl rfl⟩
 snd:=List.pairwise_singleton _ _
 stn q h:=by rw[List.mem_singleton] at h;subst h;exact⟨.head _,fun i m=>by rw[List.mem_singleton] at m;cases m⟩
 root:=.head _
 par m h:=by rw[List.mem_singleton] at h;cases h;exact .inl rfl
 cls q h1 h2:=by rw[List.mem_singleton] at h1;cases h1;exact absurd (.head _) h2
 free i _ m:=by rw[List.mem_singleton] at m;cases m
 kst m:=by rw[List.mem_singleton] at m;omega
 own q i m:=by rw[List.mem_singleton] at m;cases m
theorem Wk.enter {c:Circ}{t:List Nat}{s k:Nat}{out:List LnZ}{st:List Nat} (W:Wk c t s out (st++[k]) c.nodes.length 0):Wk c t s out st k 0 where
 nd:=W.nd
 sub:=W.sub
 snd:=(nodup_snoc.1 W.snd).1
 stn q h:=W.stn q (List.mem_append.2 (.inl h))
 root:=W.root
 par:=W.par
 cls q h1 h2 i x y h3 hx:=W.cls q h1 (fun m=>by
  rcases List.mem_append.1 m with m|m
  ·exact h2 m
  ·rw[List.mem_singleton] at m
   exact absurd (h3 m) (Nat.not_lt_zero _)) i x y (fun e=>by have:=lt_of_get hx;omega) hx
 free i _:=(W.stn k (List.mem_append.2 (.inr (.head _)))).2 i
 kst:=(nodup_snoc.1 W.snd).2
 own:=W.own
theorem Wk.leave {c:Circ}{t:List Nat}{s k j:Nat}{out:List LnZ}{st:List Nat} (hs:s<c.nodes.length) (C:Cir c) (W:Wk c t s out st k j) (hk:∀ x,c.nodes[k]?=some x→combB x.kind=true→x.ins.length≤j):Wk c t s out st c.nodes.length 0 where
 nd:=W.nd
 sub:=W.sub
 snd:=W.snd
 stn:=W.stn
 root:=W.root
 par:=W.par
 cls q h1 h2 i x y _ hx hc hi:=W.cls q h1 h2 i x y (fun e=>by subst e;have:=hk x hx hc;have:=lt_of_get hi;omega) hx hc hi
 free i _ m:=by
  have:=(W.sub _ m).1.lt C hs
  dsimp only at this
  omega
 kst m:=by
  have:=(W.sub _ (W.stn _ m).1).1.lt C hs
  dsimp only at this
  omega
 own:=W.own
theorem Wk.step0 {c:Circ}{t:List Nat}{s k j:Nat}{out:List LnZ}{st:List Nat} (W:Wk c t s out st k j) (h:chgB c t k j=false):Wk c t s out st k (j+1) where
 nd:=W.nd
 sub:=W.sub
 snd:=W.snd
 stn:=W.stn
 root:=W.root
 par:=W.par
 cls q h1 h2 i x y h3 hx hc hi hg:=W.cls q h1 h2 i x y (fun e=>by
  have:=h3 e
  by_cases q:i=j
  ·subst q;rw[e,h] at hg;cases hg
  ·omega) hx hc hi hg
 free i hi:=W.free i (by omega)
 kst:=W.kst
 own:=W.own
theorem snoc_mem {α:Type}{l:List α}{a b:α}:a∈l++[b]↔a∈l∨a=b:=by rw[List.mem_append,List.mem_singleton]
theorem Wk.step1 {c:Circ}{t:List Nat}{s k j y:Nat}{x:Node}{out:List LnZ}{st:List Nat} (W:Wk c t s out st k j) (hx:c.nodes[k]?=some x) (hc:combB x.kind=true) (hj:x.ins[j]?=some y) (hk:(⟨k,Int.negSucc 0⟩:LnZ)∈out) (h:chgB c t k j=true) (hm:manyN c y≠1):Wk c t s (out++[⟨k,Int.ofNat j⟩]) st k (j+1) where
 nd:=nodup_snoc.2 ⟨W.nd,W.free j (Nat.le_refl _)⟩
 sub l m:=by
  rcases snoc_mem.1 m with m|rfl
  ·exact W.sub l m
  ·exact⟨(W.sub _ hk).1,.inr ⟨j,x,rfl,hx,hc,lt_of_get hj,h⟩⟩
 snd:=W.snd
 stn q m:=by
  obtain⟨h1,h2⟩:=W.stn q m
  refine⟨snoc_mem.2 (.inl h1),fun i m2=>?_⟩
  rcases snoc_mem.1 m2 with m2|e
  ·exact h2 i m2
  ·cases e;exact W.kst m
 root:=snoc_mem.2 (.inl W.root)
 par m hm:=by
  rcases snoc_mem.1 hm with hm|e
  ·rcases W.par m hm with e|⟨a,b,h1,h2⟩
   ·exact .inl e
   ·exact .inr ⟨a,b,h1,snoc_mem.2 (.inl h2)⟩
  ·cases e
 cls q h1 h2 i x' y' h3 hx' hc' hi hg:=by
  have h1:(⟨q,Int.negSucc 0⟩:LnZ)∈out:=by
   rcases snoc_mem.1 h1 with m|e
   ·exact m
   ·cases e
  by_cases e:q=k∧i=j
  ·obtain⟨rfl,rfl⟩:=e
   rw[hx] at hx';cases hx'
   rw[hj] at hi;cases hi
   exact⟨snoc_mem.2 (.inr rfl),fun e=>absurd e hm⟩
  ·obtain⟨a,b⟩:=W.cls q h1 h2 i x' y' (fun e2=>by have:=h3 e2;have:i≠j:=fun e3=>e ⟨e2,e3⟩;omega) hx' hc' hi hg
   exact⟨snoc_mem.2 (.inl a),fun e=>snoc_mem.2 (.inl (b e))⟩
 free i hi m:=by
  rcases snoc_mem.1 m with m|e
  ·exact W.free i (by omega) m
  ·have:=congrArg LnZ.pin e
   have:i=j:=Int.ofNat.inj this
   omega
 kst:=W.kst
 own q i m:=by
  rcases snoc_mem.1 m with m|e
  ·exact snoc_mem.2 (.inl (W.own q i m))
  ·have:=congrArg LnZ.node e
   dsimp only at this
   subst this
   exact snoc_mem.2 (.inl hk)
theorem Wk.step2 {c:Circ} (C:Cir c) {t:List Nat}{s k j y:Nat}{x:Node}{out:List LnZ}{st:List Nat} (W:Wk c t s out st k j) (hx:c.nodes[k]?=some x) (hc:combB x.kind=true) (hj:x.ins[j]?=some y) (hk:(⟨k,Int.negSucc 0⟩:LnZ)∈out) (h:chgB c t k j=true) (hm:manyN c y=1):Wk c t s ((out++[⟨k,Int.ofNat j⟩])++[⟨y,Int.negSucc 0⟩]) (st++[y]) k (j+1):=by
 have o:=one_of hm (by rw[insOf_eq hx];exact hj)
 have hlt:=ins_lt C hx hc (List.mem_of_getElem? hj)
 have hr:=(W.sub _ hk).1
 have hle:=hr.le C
 dsimp only at hle
 have hpin:(⟨k,Int.ofNat j⟩:LnZ) ∉ out:=W.free j (Nat.le_refl _)
 have hnew:(⟨y,Int.negSucc 0⟩:LnZ) ∉ out:=by
  intro m
  rcases W.par y m with e|⟨a,b,h1,h2⟩
  ·omega
  ·obtain⟨rfl,rfl⟩:=o.only a b h1
   exact hpin h2
 have up:∀ {l},l∈out→l∈(out++[(⟨k,Int.ofNat j⟩:LnZ)])++[⟨y,Int.negSucc 0⟩]:=fun m=>snoc_mem.2 (.inl (snoc_mem.2 (.inl m)))
 have net:∀ q,(⟨q,Int.negSucc 0⟩:LnZ)∈(out++[(⟨k,Int.ofNat j⟩:LnZ)])++[⟨y,Int.negSucc 0⟩]→(⟨q,Int.negSucc 0⟩:LnZ)∈out∨q=y:=by
  intro q m
  rcases snoc_mem.1 m with m|e
  ·rcases snoc_mem.1 m with m|e
   ·exact .inl m
   ·cases e
  ·cases e;exact .inr rfl
 have pin:∀ q i,(⟨q,Int.ofNat i⟩:LnZ)∈(out++[(⟨k,Int.ofNat j⟩:LnZ)])++[⟨y,Int.negSucc 0⟩]→(⟨q,Int.ofNat i⟩:LnZ)∈out∨(q=k∧i=j):=by
  intro q i m
  rcases snoc_mem.1 m with m|e
  ·rcases snoc_mem.1 m with m|e
   ·exact .inl m
   ·cases e;exact .inr ⟨rfl,rfl⟩
  ·cases e
 refine⟨nodup_snoc.2 ⟨nodup_snoc.2 ⟨W.nd,hpin⟩,fun m=>?_⟩,fun l m=>?_,nodup_snoc.2 ⟨W.snd,fun m=>hnew (W.stn y m).1⟩,fun q m=>?_,up W.root,fun m hm'=>?_,fun q h1 h2 i x' y' h3 hx' hc' hi hg=>?_,fun i hi m=>?_,fun m=>?_,fun q i m=>?_⟩
 ·rcases snoc_mem.1 m with m|e
  ·exact hnew m
  ·cases e
 ·rcases snoc_mem.1 m with m|rfl
  ·rcases snoc_mem.1 m with m|rfl
   ·exact W.sub l m
   ·exact⟨hr,.inr ⟨j,x,rfl,hx,hc,lt_of_get hj,h⟩⟩
  ·exact⟨hr.step hx hc hj h hm,.inl rfl⟩
 ·rcases snoc_mem.1 m with m|rfl
  ·obtain⟨h1,h2⟩:=W.stn q m
   refine⟨up h1,fun i m2=>?_⟩
   rcases pin q i m2 with m2|⟨rfl,rfl⟩
   ·exact h2 i m2
   ·exact W.kst m
  ·refine⟨snoc_mem.2 (.inr rfl),fun i m2=>?_⟩
   rcases pin q i m2 with m2|⟨rfl,rfl⟩
   ·exact hnew (W.own q i m2)
   ·omega
 ·rcases net m hm' with hm' | rfl
  ·rcases W.par m hm' with e|⟨a,b,h1,h2⟩
   ·exact .inl e
   ·exact .inr ⟨a,b,h1,up h2⟩
  ·exact .inr ⟨k,j,o.pin,snoc_mem.2 (.inl (snoc_mem.2 (.inr rfl)))⟩
 ·have h1:(⟨q,Int.negSucc 0⟩:LnZ)∈out:=by
   rcases net q h1 with m|rfl
   ·exact m
   ·exact absurd (snoc_mem.2 (.inr rfl)) h2
  by_cases e:q=k∧i=j
  ·obtain⟨rfl,rfl⟩:=e
   rw[hx] at hx';cases hx'
   rw[hj] at hi;cases hi
   exact⟨snoc_mem.2 (.inl (snoc_mem.2 (.inr rfl))),fun _=>snoc_mem.2 (.inr rfl)⟩
  ·obtain⟨a,b⟩:=W.cls q h1 (fun m=>h2 (snoc_mem.2 (.inl m))) i x' y' (fun e2=>by have:=h3 e2;have:i≠j:=fun e3=>e ⟨e2,e3⟩;omega) hx' hc' hi hg
   exact⟨up a,fun e=>up (b e)⟩
 ·rcases pin k i m with m|⟨_,e⟩
  ·exact W.free i (by omega) m
  ·omega
 ·rcases snoc_mem.1 m with m|e
  ·exact W.kst m
  ·omega
 ·rcases pin q i m with m|⟨rfl,rfl⟩
  ·exact up (W.own q i m)
  ·exact up hk
theorem Wk.fin {c:Circ}{t:List Nat}{s:Nat}{out:List LnZ} (W:Wk c t s out [] c.nodes.length 0) (l:LnZ):l∈out↔InW c t s l:=by
 refine⟨W.sub l,fun h=>?_⟩
 have key:∀ m,Rch c t s m→(⟨m,Int.negSucc 0⟩:LnZ)∈out:=by
  intro m h
  induction h with
  |base=>exact W.root
  |step _ hx hc hj hg h1 ih=>exact (W.cls _ ih (by simp) _ _ _ (fun e=>by have:=lt_of_get hx;omega) hx hc hj hg).2 h1
 obtain⟨h1,h2⟩:=h
 obtain⟨a,b⟩:=l
 dsimp only at h1 h2
 rcases h2 with rfl|⟨j,x,rfl,hx,hc,hj,hg⟩
 ·exact key a h1
 ·obtain⟨y,hy⟩:=get_lt hj
  exact (W.cls a (key a h1) (by simp) j x y (fun e=>by have:=lt_of_get hx;omega) hx hc hy hg).1
theorem linesN_len {c:Circ} (C:Cir c):(linesN c).length≤272:=by
 have:=linesTo_len C c.nodes.length (Nat.le_refl _)
 have:=C.len
 unfold linesN
 omega
theorem inW_mem {c:Circ} (C:Cir c) {t:List Nat}{s:Nat}{l:LnZ} (hs:s<c.nodes.length) (h:InW c t s l):l∈linesN c:=by
 obtain⟨h1,h2⟩:=h
 refine line_mem.2 ⟨h1.lt C hs,?_⟩
 rcases h2 with h2|⟨j,x,h2,hx,_,hj,_⟩
 ·exact .inl h2
 ·exact .inr ⟨j,h2,by rw[insOf_eq hx];exact hj⟩
theorem walk_vc {c:Circ} (P:Plz c) {t:List Nat} (ht:t.length=c.nodes.length) {s:Nat} (hs:s<c.nodes.length) {K:List LnZ→Prop} (h:∀ r,r.Nodup→(∀ l,l∈r↔InW c t s l)→K r):traces_walk_wp c t (manyL c) s K:=by
 have C:=P.cir
 have hlen:=C.len
 have hL:=linesN_len C
 have bound:∀ {out:List LnZ} {st:List Nat} {k j:Nat},Wk c t s out st k j→out.length≤272:=fun W=>Nat.le_trans (nodupLen W.nd fun l m=>inW_mem C hs (W.sub l m)) hL
 have stb:∀ {out:List LnZ} {st:List Nat} {k j:Nat},Wk c t s out st k j→st.length≤16:=by
  intro out st k j W
  have:=nodupLen (m:=List.range c.nodes.length) W.snd fun q m=>List.mem_range.2 (by
   have:=(W.sub _ (W.stn q m).1).1.lt C hs
   exact this)
  rw[List.length_range] at this
  omega
 unfold traces_walk_wp
 refine joinLoop (fun q=>Wk c t s q.1 q.2 c.nodes.length 0) (fun q=>2*(272-q.1.length)+q.2.length) (fun r=>r.Nodup∧∀ l,l∈r↔InW c t s l) ?_ (Wk.start hs) (fun r ⟨h1,h2⟩=>⟨List.length_pos_of_mem ((h2 ⟨s,Int.negSucc 0⟩).2 ⟨.base,.inl rfl⟩),h r h1 h2⟩)
 rintro kk ⟨out,st⟩ nx W hnx hk
 dsimp only at W hnx
 refine⟨fun q=>?_,fun q=>hk _ ?_⟩
 ·have q:0<st.length:=lt_t.1 q
  have b2:=stb W
  obtain⟨k,hkk⟩:=get_lt (show st.length-1<st.length by omega)
  have est:st=st.take (st.length-1)++[k]:=by
   rw[← takeG hkk,List.take_of_length_le (by omega)]
  have hko:(⟨k,Int.negSucc 0⟩:LnZ)∈out:=(W.stn k (List.mem_of_getElem? hkk)).1
  have hkn:k<c.nodes.length:=(W.sub _ hko).1.lt C hs
  obtain⟨x,hx⟩:=get_lt hkn
  have hfew:=(C.good.node k x hx).few
  have W0:Wk c t s out (st.take (st.length-1)) k 0:=by
   rw[est] at W
   exact W.enter
  have hl0:(st.take (st.length-1)).length=st.length-1:=by rw[List.length_take];omega
  refine⟨q,by omega,k,hkk,q,by omega,by omega,x,hx,fun e=>?_,fun e=>⟨x,hx,?_⟩⟩
  ·refine hnx _ (W0.leave hs C fun x' hx' hc=>?_) (by dsimp only;omega)
   rw[hx] at hx';cases hx'
   have:=eq_t.1 e
   have:=of_decide_eq_true hc
   omega
  ·have e:=eq_f.1 e
   refine loopW_intro (fun q=>q.2.2≤x.ins.length∧Wk c t s q.1 q.2.1 k q.2.2∧(⟨k,Int.negSucc 0⟩:LnZ)∈q.1∧2*out.length+q.2.1.length≤2*q.1.length+(st.length-1)) (fun q=>x.ins.length-q.2.2) ?_ ⟨Nat.zero_le _,W0,hko,by dsimp only;omega⟩
   rintro⟨o2,s2,j⟩ nx2 ⟨hj,W2,hk2,hb⟩ hnx2
   dsimp only at hj W2 hk2 hb
   refine⟨fun q=>?_,fun q=>?_⟩
   ·have q:j<x.ins.length:=lt_t.1 q
    obtain⟨y,hy⟩:=get_lt q
    have hc:=pin_comb P hx hy e
    have b3:=bound W2
    have b4:=stb W2
    have hyn:=(C.good.node k x hx).ins y (List.mem_of_getElem? hy)
    refine joinP (fun r=>Wk c t s r.1 r.2 k (j+1)∧(⟨k,Int.negSucc 0⟩:LnZ)∈r.1∧2*out.length+r.2.length≤2*r.1.length+(st.length-1)) (fun k3 hk3=>⟨y,hy,changes_vc C ht hx hc j ⟨fun e1=>?_,fun e1=>⟨?_,_,manyL_get hyn,fun e2=>⟨?_,?_,?_⟩,fun e2=>?_⟩⟩⟩) ?_
    ·have e1:chgB c t k j=false:=by revert e1;cases chgB c t k j <;> simp
     exact hk3 _ ⟨W2.step0 e1,hk2,hb⟩
    ·simp only[List.length_singleton];omega
    ·simp only[List.length_append,List.length_singleton];omega
    ·simp only[List.length_singleton];omega
    ·have e1:chgB c t k j=true:=by revert e1;cases chgB c t k j <;> simp
     refine hk3 _ ⟨W2.step2 C hx hc hy hk2 e1 (eq_t.1 e2),snoc_mem.2 (.inl (snoc_mem.2 (.inl hk2))),?_⟩
     simp only[List.length_append,List.length_singleton];omega
    ·have e1:chgB c t k j=true:=by revert e1;cases chgB c t k j <;> simp
     refine hk3 _ ⟨W2.step1 hx hc hy hk2 e1 (eq_f.1 e2),snoc_mem.2 (.inl hk2),?_⟩
     simp only[List.length_append,List.length_singleton];omega
    ·rintro⟨o3,s3⟩ ⟨W3,h3,h4⟩
     exact⟨by omega,hnx2 _ ⟨q,W3,h3,h4⟩ (by dsimp only;omega)⟩
   ·have q:x.ins.length≤j:=lt_f.1 q
    have b3:=bound W2
    refine hnx _ (W2.leave hs C fun x' hx' hc=>?_) ?_
    ·rw[hx] at hx';cases hx';exact q
    ·dsimp only;omega
 ·have q:st.length≤0:=lt_f.1 q
  have:st=[]:=List.length_eq_zero_iff.1 (by omega)
  subst this
  exact⟨W.nd,W.fin⟩
def dffPins (c:Circ) (m:Nat):List LnZ:=((fanOf c m).map Ln.toZ).filter fun l=>kd c l.node==14
theorem critical_vc {c:Circ} (P:Plz c) {p:Pat} (F:Full c p) {K:List LnZ→Prop} (h:∀ r,r.Nodup→(∀ l,l∈r↔l∈linesN c∧critL c p l=true)→K r):traces_critical_wp c p K:=by
 have C:=P.cir
 have hp:=F.pat
 have hlen:=C.len
 have hol:=C.good.outsLen
 have V:=V_sol C hp
 have hL:=linesN_len C
 unfold traces_critical_wp
 refine runV_vc C hp (loads_wp_vc C ?_)
 have inL:∀ {m:Nat} {l:LnZ},m<c.nodes.length→PartW c p m l→l∈linesN c:=fun hm hq=>((part_crit P F).1 ⟨_,hm,hq⟩).1
 refine joinLoop (fun s=>s.2≤c.nodes.length∧s.1.Nodup∧∀ l,l∈s.1 ↔ ∃ m,m<s.2∧PartW c p m l) (fun s=>c.nodes.length-s.2) (fun r=>r.Nodup∧∀ l,l∈r↔l∈linesN c∧critL c p l=true) ?_ ⟨Nat.zero_le _,List.nodup_nil,fun l=>⟨(fun m=>by cases m),fun ⟨m,hm,_⟩=>absurd hm (Nat.not_lt_zero _)⟩⟩ (fun r ⟨h1,h2⟩=>h r h1 h2)
 rintro k ⟨out,n⟩ nx ⟨hn,nd,mem⟩ hnx hk
 dsimp only at hn nd mem
 refine⟨fun q=>?_,fun q=>hk _ ⟨nd,fun l=>?_⟩⟩
 ·have q:n<c.nodes.length:=lt_t.1 q
  have hfl:=fan_len C.good q
  have bout:∀ {r:List LnZ},r.Nodup→(∀ l∈r,∃ m,m<n+1∧PartW c p m l)→r.length≤272:=fun h1 h2=>Nat.le_trans (nodupLen h1 fun l hl=>by
    obtain⟨m,hm,hq⟩:=h2 l hl
    exact inL (by omega) hq) hL
  refine joinP (fun r=>r.Nodup∧∀ l,l∈r ↔ ∃ m,m<n+1∧PartW c p m l) (fun k1 hk1=>containsI_vc (by omega) ?_) ?_
  ·
    refine joinB' (a:=c.outs.contains n||(decide (1<manyN c n)&&critN c p n)) (fun G=>?_) ?_
    · refine joinB' (a := !c.outs.contains n&&decide (1<manyN c n)) (fun G2=>⟨fun e=>⟨_,manyL_get q,?_⟩,fun e=>?_⟩) ⟨fun e=>⟨_,getN V.len q,not_vc ?_⟩,fun e=>?_⟩
      ·have e:c.outs.contains n=false:=nb_t e
       have:ltN 1 (manyN c n)=(!c.outs.contains n&&decide (1<manyN c n)):=by rw[ltN_eq,e];rfl
       rw[this];exact G2
      ·have e:c.outs.contains n=true:=nb_f e
       have e2:(!c.outs.contains n&&decide (1<manyN c n))=false:=by rw[e];rfl
       rw[e2] at G2;exact G2
      ·refine detects_vc C hp ⟨rfl,?_,rfl,q,show (-1:Int)≤Int.negSucc 0 by decide,?_⟩ ?_
       ·have:=V_bin P F n
        dsimp only
        rw[notN_bin this];omega
       ·exact Int.lt_of_lt_of_le (show Int.negSucc 0<0 by decide) (Int.natCast_nonneg _)
       ·rw[Bool.and_eq_true,Bool.not_eq_true'] at e
        rw[e.1,e.2,Bool.false_or,Bool.true_and] at G
        rw[det_net]
        exact G
      ·rw[Bool.and_eq_false_iff,Bool.not_eq_false'] at e
       rcases e with e|e
       ·rw[e,Bool.true_or] at G;rw[e];exact G
       ·rw[e,Bool.false_and,Bool.or_false] at G;exact G
    ·
      have es:startB c p n=((c.outs.contains n||(decide (1<manyN c n)&&critN c p n))||((fanOf c n).map Ln.toZ).any fun l=>kd c l.node==14):=by
       unfold startB
       rw[List.any_map]
       rfl
      have hdl:(((fanOf c n).map Ln.toZ).filter fun l=>kd c l.node==14).length≤1000:=Nat.le_trans (List.length_filter_le _ _) (by rw[List.length_map];exact hfl)
      have hnd:(dffPins c n).Nodup:=by
       refine List.Pairwise.filter _ (List.pairwise_map.2 ?_)
       refine (fan_nodup c n).imp fun {a b} hab e=>hab ?_
       obtain⟨a1,a2⟩:=a
       obtain⟨b1,b2⟩:=b
       unfold Ln.toZ at e
       cases e
       rfl
      have hdm:∀ l,l∈dffPins c n↔(l∈(fanOf c n).map Ln.toZ∧kd c l.node=14):=fun l=>by
       unfold dffPins
       rw[List.mem_filter,beq_iff_eq]
      have nd2:(out++dffPins c n).Nodup:=by
       refine List.nodup_append.2 ⟨nd,hnd,fun a ha b hb e=>?_⟩
       subst e
       obtain⟨m,hm,hq⟩:=(mem a).1 ha
       have:=part_uniq hq (.inl ((hdm a).1 hb))
       omega
      refine joinP (fun r=>r=(out++dffPins c n,startB c p n)) (fun k2 hk2=>⟨_,fanZ_get q,?_⟩) ?_
      ·have bo:=bout nd (fun l hl=>by obtain⟨m,hm,hq⟩:=(mem l).1 hl;exact⟨m,by omega,hq⟩)
       refine loopW_intro (fun s=>s.2.2≤(fanOf c n).length∧s.1=out++(((fanOf c n).map Ln.toZ).take s.2.2).filter (fun l=>kd c l.node==14)∧s.2.1=((c.outs.contains n||(decide (1<manyN c n)&&critN c p n))||(((fanOf c n).map Ln.toZ).take s.2.2).any fun l=>kd c l.node==14)) (fun s=>(fanOf c n).length-s.2.2) ?_ ⟨Nat.zero_le _,by simp,by simp⟩
       rintro⟨o2,b,j⟩ nx2 ⟨hj,ho2,hb⟩ hnx2
       dsimp only at hj ho2 hb
       refine⟨fun q2=>?_,fun q2=>?_⟩
       ·have q2:j<(fanOf c n).length:=by have:=lt_t.1 q2;rwa [List.length_map] at this
        obtain⟨l0,hl0⟩:=get_lt q2
        have hl:((fanOf c n).map Ln.toZ)[j]?=some l0.toZ:=by rw[List.getElem?_map,hl0];rfl
        have hln:l0.node<c.nodes.length:=fan_lt (List.mem_of_getElem? hl0)
        obtain⟨y,hy⟩:=get_lt hln
        have hb2:((((fanOf c n).map Ln.toZ).take j).filter fun l=>kd c l.node==14).length≤1000:=Nat.le_trans (List.length_filter_le _ _) (by rw[List.length_take,List.length_map];omega)
        refine joinP (fun r=>r.1=out++(((fanOf c n).map Ln.toZ).take (j+1)).filter (fun l=>kd c l.node==14)∧r.2=((c.outs.contains n||(decide (1<manyN c n)&&critN c p n))||(((fanOf c n).map Ln.toZ).take (j+1)).any fun l=>kd c l.node==14)) (fun k3 hk3=>⟨_,hl,y,hy,fun e=>⟨?_,hk3 _ ⟨?_,?_⟩⟩,fun e=>hk3 _ ⟨?_,?_⟩⟩) ?_
        ·rw[ho2,List.length_append]
         simp only[List.length_singleton]
         omega
        ·have e:kd c l0.toZ.node=14:=by rw[← eq_t.1 e];exact kd_eq hy
         dsimp only
         rw[ho2,takeG hl,List.filter_append,List.append_assoc]
         congr 2
         rw[List.filter_cons,e]
         rfl
        ·have e:kd c l0.toZ.node=14:=by rw[← eq_t.1 e];exact kd_eq hy
         dsimp only
         rw[takeG hl,List.any_append]
         simp[e]
        ·have e:¬ kd c l0.toZ.node=14:=by rw[show kd c l0.toZ.node=y.kind from kd_eq hy];exact eq_f.1 e
         dsimp only
         rw[ho2,takeG hl,List.filter_append]
         congr 1
         rw[List.filter_cons,if_neg (by simpa using e)]
         simp
        ·have e:¬ kd c l0.toZ.node=14:=by rw[show kd c l0.toZ.node=y.kind from kd_eq hy];exact eq_f.1 e
         have e':(kd c l0.toZ.node==14)=false:=by simpa using e
         dsimp only
         rw[hb,takeG hl,List.any_append,List.any_cons,e',List.any_nil]
         simp only[Bool.or_false]
        ·rintro⟨o3,b3⟩ ⟨h3,h4⟩
         exact⟨by omega,hnx2 _ ⟨q2,h3,h4⟩ (by dsimp only;omega)⟩
       ·have q2:(fanOf c n).length≤j:=by have:=lt_f.1 q2;rwa [List.length_map] at this
        rw[List.take_of_length_le (by rw[List.length_map];exact q2)] at ho2 hb
        refine hk2 _ ?_
        rw[ho2,hb,es]
        rfl
      ·rintro _ rfl
       refine⟨fun e=>walk_vc P V.len q fun r hr1 hr2=>?_,fun e=>hk1 _ ⟨nd2,fun l=>?_⟩⟩
       ·have e:startB c p n=true:=e
        have hrl:r.length≤272:=Nat.le_trans (nodupLen hr1 fun l hl=>inW_mem C q ((hr2 l).1 hl)) hL
        have bo:=bout nd2 (fun l hl=>by
         rcases List.mem_append.1 hl with hl|hl
         ·obtain⟨m,hm,hq⟩:=(mem l).1 hl;exact⟨m,by omega,hq⟩
         ·exact⟨n,by omega,.inl ((hdm l).1 hl)⟩)
        refine⟨by omega,hk1 _ ⟨List.nodup_append.2 ⟨nd2,hr1,fun a ha b hb e2=>?_⟩,fun l=>?_⟩⟩
        ·subst e2
         have hb:=(hr2 a).1 hb
         rcases List.mem_append.1 ha with ha|ha
         ·obtain⟨m,hm,hq⟩:=(mem a).1 ha
          have:=part_uniq hq (.inr ⟨e,hb⟩)
          omega
         ·have ha:=(hdm a).1 ha
          obtain⟨j,e3,_⟩:=toZ_mem.1 ha.1
          rcases hb.2 with e4|⟨j',x,_,hx,hc,_⟩
          ·rw[e3] at e4;cases e4
          ·have:=ha.2
           rw[kd_eq hx] at this
           have:=of_decide_eq_true hc
           omega
        ·rw[List.mem_append,List.mem_append,mem,hdm,hr2]
         constructor
         ·rintro ((⟨m,hm,hq⟩|hq) | hq)
          ·exact⟨m,by omega,hq⟩
          ·exact⟨n,by omega,.inl hq⟩
          ·exact⟨n,by omega,.inr ⟨e,hq⟩⟩
         ·rintro⟨m,hm,hq⟩
          by_cases e2:m=n
          ·subst e2
           rcases hq with hq|hq
           ·exact .inl (.inr hq)
           ·exact .inr hq.2
          ·exact .inl (.inl ⟨m,by omega,hq⟩)
       ·have e:startB c p n=false:=e
        rw[List.mem_append,mem,hdm]
        constructor
        ·rintro (⟨m,hm,hq⟩|hq)
         ·exact⟨m,by omega,hq⟩
         ·exact⟨n,by omega,.inl hq⟩
        ·rintro⟨m,hm,hq⟩
         by_cases e2:m=n
         ·subst e2
          rcases hq with hq|hq
          ·exact .inr hq
          ·rw[e] at hq;cases hq.1
         ·exact .inl ⟨m,by omega,hq⟩
  · rintro r ⟨h1,h2⟩
    exact⟨by omega,hnx _ ⟨q,h1,h2⟩ (by dsimp only;omega)⟩
 ·have q:c.nodes.length≤n:=lt_f.1 q
  have e:n=c.nodes.length:=by omega
  subst e
  rw[mem]
  exact part_crit P F
theorem linesN_sorted (c:Circ):(linesN c).Pairwise fun x y=>x.node<y.node∨x.node=y.node∧x.pin<y.pin:=by
 unfold linesN linesTo
 refine List.pairwise_flatMap.2 ⟨fun i _=>?_,?_⟩
 ·unfold rowL
  refine List.pairwise_map.2 (List.pairwise_lt_range.imp fun {a b} h=>.inr ⟨rfl,?_⟩)
  simp only[Int.ofNat_eq_natCast];omega
 ·refine List.pairwise_lt_range.imp fun {a b} h x hx y hy=>.inl ?_
  unfold rowL at hx hy
  obtain⟨i,_,rfl⟩:=List.mem_map.1 hx
  obtain⟨j,_,rfl⟩:=List.mem_map.1 hy
  exact h
theorem sorted_eq:∀ {l m:List LnZ},l.Pairwise (fun x y=>x.node<y.node∨x.node=y.node∧x.pin<y.pin)→m.Pairwise (fun x y=>x.node<y.node∨x.node=y.node∧x.pin<y.pin)→(∀ x,x∈l↔x∈m)→l=m
 |[],[],_,_,_=>rfl
 |[],b::m,_,_,h=>by have:=(h b).2 (.head _);cases this
 |a::l,[],_,_,h=>by have:=(h a).1 (.head _);cases this
 |a::l,b::m,h1,h2,h=>by
  obtain⟨a1,a2⟩:=List.pairwise_cons.1 h1
  obtain⟨b1,b2⟩:=List.pairwise_cons.1 h2
  have e:a=b:=by
   rcases List.mem_cons.1 ((h a).1 (.head _)) with e|e
   ·exact e
   rcases List.mem_cons.1 ((h b).2 (.head _)) with e2|e2
   ·exact e2.symm
   have q1:=b1 a e
   have q2:=a1 b e2
   omega
  subst e
  congr 1
  refine sorted_eq a2 b2 fun x=>?_
  constructor
  ·intro hx
   rcases List.mem_cons.1 ((h x).1 (.tail _ hx)) with e|e
   ·subst e;have:=a1 x hx;omega
   ·exact e
  ·intro hx
   rcases List.mem_cons.1 ((h x).2 (.tail _ hx)) with e|e
   ·subst e;have:=b1 x hx;omega
   ·exact e
theorem sorted_is {c:Circ}{q:LnZ→Bool}{r l:List LnZ} (nd:r.Nodup) (hm:∀ x,x∈r↔x∈linesN c∧q x=true) (hp:l.Perm r) (hs:l.Pairwise lnLe):l=(linesN c).filter q:=by
 have ndl:l.Nodup:=hp.nodup_iff.2 nd
 refine sorted_eq ?_ ((linesN_sorted c).filter _) fun x=>?_
 ·have:=List.Pairwise.and hs ndl
  refine this.imp fun {a b} h=>?_
  obtain⟨h1,h2⟩:=h
  have h1:=lnLe_iff.1 h1
  by_cases e:a.node=b.node∧a.pin=b.pin
  ·exact absurd (by cases a;cases b;simp only[LnZ.mk.injEq];exact e) h2
  ·omega
 ·rw[hp.mem_iff,hm,List.mem_filter]
theorem line_bd {c:Circ} (C:Cir c) {l:LnZ} (h:l∈linesN c):lnB l:=by
 have hlen:=C.len
 obtain⟨h1,h2⟩:=line_mem.1 h
 refine⟨by omega,?_⟩
 rcases h2 with e|⟨j,e,hj⟩
 ·rw[e];exact⟨by decide,by decide⟩
 ·obtain⟨x,hx⟩:=get_lt h1
  have:=(C.good.node _ x hx).few
  rw[insOf_eq hx] at hj
  rw[e]
  simp only[Int.ofNat_eq_natCast]
  omega
theorem Critical_vc {c:Circ} (P:Plz c) {p:Pat} (F:Full c p) {K:List LnZ×Nat→Prop} (h:K ((linesN c).filter (critL c p),0)):traces_Critical_wp c p K:=by
 have C:=P.cir
 have hL:=linesN_len C
 unfold traces_Critical_wp
 refine tplain_vc P ⟨(fun q=>absurd rfl (ne_t.1 q)),fun _=>tfull_vc C F ⟨(fun q=>absurd rfl (ne_t.1 q)),fun _=>critical_vc P F fun r hr1 hr2=>⟨?_,fun x hx=>line_bd C ((hr2 x).1 hx).1,fun l h1 h2=>?_⟩⟩⟩
 ·have:=nodupLen hr1 fun l hl=>((hr2 l).1 hl).1
  omega
 ·rw[sorted_is hr1 hr2 h1 h2]
  exact h
def noMem (x:CData):CData:=⟨x.inp,x.dffs,x.data0,x.data1,x.bus,false,x.port0,x.port1,x.port2,x.port3,x.gates,x.outs⟩
def noBus (x:CData):CData:=⟨x.inp,x.dffs,x.data0,x.data1,false,x.mem,x.port0,x.port1,x.port2,x.port3,x.gates,x.outs⟩
theorem cb_noMem {x:CData} (h:CB x):CB (noMem x):=⟨h.inp,h.dffs,h.data0,h.data1,h.port0,h.port1,h.port2,h.port3,h.gates,h.outs⟩
theorem cb_noBus {x:CData} (h:CB x):CB (noBus x):=⟨h.inp,h.dffs,h.data0,h.data1,h.port0,h.port1,h.port2,h.port3,h.gates,h.outs⟩
theorem circ12_vc {x:CData} (hx:CB x) {K:Circ→Prop} (h:K (circN (noMem x))):probecardlaw12_Circuit_wp x K:=of_circ_vc (cb_noMem hx) h
theorem plain12_vc {x:CData} (hx:CB x) {K:Circ→Prop} (h:K (circN (noMem (noBus x)))):probecardlaw12_Plain_wp x K:=circ12_vc (cb_noBus hx) h
theorem cir_circ {x:CData} (hm:x.mem=false):Cir (circN x):=by
 refine⟨good_circ hm,by rw[circ_mems,hm];rfl,fun i y h=>?_⟩
 rcases circ_node hm h with⟨_,rfl⟩|⟨_,_,d,_,rfl⟩|⟨h1,_,g,hg⟩
 ·show (0:Nat)≤14;decide
 ·show (14:Nat)≤14;decide
 ·have hi:=lt_of_get h
  have hn:(circN x).nodes.length=(rawN x).length:=updN_length _
  have q:=gateK_ok x.bus g (ks:=((rawN x).take i).map Node.kind) (by rw[List.length_map,List.length_take];omega)
  rw[← hg] at q
  have:=q.kind
  omega
theorem plz_circ {x:CData} (hm:x.mem=false) (hb:x.bus=false):Plz (circN x):=⟨cir_circ hm,fun i y h=>⟨(plain_circ hm hb i y h).1,(plain_circ hm hb i y h).2.1⟩⟩
theorem bit_le (n k:Nat):n/2 ^ k%2 ^ 1%256≤1:=by
 have:n/2 ^ k%2 ^ 1<2:=Nat.mod_lt _ (by decide)
 omega
theorem ofN_pre (c:Circ) (k:Nat):ofN c [k]=(List.range c.nodes.length).filter fun i=>decide (kd c i=k):=by
 unfold ofN kd
 congr 1
 funext i
 rw[Bool.eq_iff_iff]
 simp
theorem full12_vc {c:Circ} (C:Cir c) {n:Nat}{K:Pat→Prop} (h:∀ p,Full c p→K p):probecardlaw12_Full_wp c n K:=by
 have hlen:=C.len
 unfold probecardlaw12_Full_wp
 have pl:∀ (k i:Nat),((List.range i).filter fun i=>decide (kd c i=k)).length≤i:=fun k i=>filtLen
 have step:∀ (k i:Nat) (l:List Nat) (v:Nat),l.length=((List.range i).filter fun i=>decide (kd c i=k)).length→(kd c i=k→(l++[v]).length=((List.range (i+1)).filter fun i=>decide (kd c i=k)).length)∧(¬ kd c i=k→l.length=((List.range (i+1)).filter fun i=>decide (kd c i=k)).length):=by
  intro k i l v e
  rw[filtS]
  refine⟨fun q=>?_,fun q=>?_⟩
  ·rw[if_pos (decide_eq_true q)];simp[e]
  ·rw[if_neg (by simpa using q),List.append_nil];exact e
 refine joinLoop (fun s=>s.2.2≤c.nodes.length∧s.1.length=((List.range s.2.2).filter fun i=>decide (kd c i=0)).length∧(∀ v∈s.1,v≤1)∧s.2.1≤s.2.2) (fun s=>c.nodes.length-s.2.2) (fun s=>s.1.length=(ofN c [0]).length∧(∀ v∈s.1,v≤1)∧s.2≤16) ?_ ⟨Nat.zero_le _,rfl,(fun v m=>by cases m),Nat.le_refl _⟩ ?_
 ·rintro k ⟨l,b,i⟩ nx ⟨hi,hl,hv,hb⟩ hnx hk
  dsimp only at hi hl hv hb
  refine⟨fun q=>?_,fun q=>hk _ ?_⟩
  ·have q:i<c.nodes.length:=lt_t.1 q
   obtain⟨x,hx⟩:=get_lt q
   have e:=kd_eq hx
   have:=pl 0 i
   refine joinP (fun s=>s.1.length=((List.range (i+1)).filter fun i=>decide (kd c i=0)).length∧(∀ v∈s.1,v≤1)∧s.2≤i+1) (fun k2 hk2=>⟨x,hx,fun q2=>⟨by decide,by omega,?_,by omega,hk2 _ ⟨?_,?_,by dsimp only;omega⟩⟩,fun q2=>hk2 _ ⟨?_,hv,by dsimp only;omega⟩⟩) ?_
   ·simp only[List.length_singleton];omega
   ·exact (step 0 i l _ hl).1 (by rw[e];exact eq_t.1 q2)
   ·intro v m
    rcases snoc_mem.1 m with m|rfl
    ·exact hv v m
    ·exact bit_le _ _
   ·exact (step 0 i l 0 hl).2 (by rw[e];exact eq_f.1 q2)
   ·rintro⟨l2,b2⟩ ⟨h1,h2,h3⟩
    exact⟨by omega,hnx _ ⟨q,h1,h2,h3⟩ (by dsimp only;omega)⟩
  ·have q:c.nodes.length≤i:=lt_f.1 q
   have e:i=c.nodes.length:=by omega
   subst e
   exact⟨by rw[ofN_pre];exact hl,hv,by dsimp only;omega⟩
 rintro⟨pi,b0⟩ ⟨p1,p2,p3⟩
 dsimp only at p1 p2 p3
 refine joinLoop (fun s=>s.2.2≤c.nodes.length∧s.1.length=((List.range s.2.2).filter fun i=>decide (kd c i=14)).length∧(∀ v∈s.1,v≤1)∧s.2.1≤16+s.2.2) (fun s=>c.nodes.length-s.2.2) (fun s=>s.length=(ofN c [14]).length∧∀ v∈s,v≤1) ?_ ⟨Nat.zero_le _,rfl,(fun v m=>by cases m),p3⟩ ?_
 ·rintro k ⟨l,b,i⟩ nx ⟨hi,hl,hv,hb⟩ hnx hk
  dsimp only at hi hl hv hb
  refine⟨fun q=>?_,fun q=>hk _ ?_⟩
  ·have q:i<c.nodes.length:=lt_t.1 q
   obtain⟨x,hx⟩:=get_lt q
   have e:=kd_eq hx
   have:=pl 14 i
   refine joinP (fun s=>s.1.length=((List.range (i+1)).filter fun i=>decide (kd c i=14)).length∧(∀ v∈s.1,v≤1)∧s.2≤16+(i+1)) (fun k2 hk2=>⟨x,hx,fun q2=>⟨by decide,by omega,?_,by omega,hk2 _ ⟨?_,?_,by dsimp only;omega⟩⟩,fun q2=>hk2 _ ⟨?_,hv,by dsimp only;omega⟩⟩) ?_
   ·simp only[List.length_singleton];omega
   ·exact (step 14 i l _ hl).1 (by rw[e];exact eq_t.1 q2)
   ·intro v m
    rcases snoc_mem.1 m with m|rfl
    ·exact hv v m
    ·exact bit_le _ _
   ·exact (step 14 i l 0 hl).2 (by rw[e];exact eq_f.1 q2)
   ·rintro⟨l2,b2⟩ ⟨h1,h2,h3⟩
    exact⟨by omega,hnx _ ⟨q,h1,h2,h3⟩ (by dsimp only;omega)⟩
  ·have q:c.nodes.length≤i:=lt_f.1 q
   have e:i=c.nodes.length:=by omega
   subst e
   exact⟨by rw[ofN_pre];exact hl,hv⟩
 ·rintro ps ⟨q1,q2⟩
  exact h ⟨pi,ps⟩ ⟨⟨p1,q1,fun v m=>Nat.le_trans (p2 v m) (by decide),fun v m=>Nat.le_trans (q2 v m) (by decide)⟩,p2,q2⟩
def gateC:Circ:=⟨[⟨0,[],0,0⟩,⟨0,[],0,0⟩,⟨5,[0,1],0,0⟩],[⟨#[97]⟩,⟨#[98]⟩,⟨#[121]⟩],[],[2]⟩
theorem isname_aby:(([⟨#[97]⟩,⟨#[98]⟩,⟨#[121]⟩]:List ByteArray).all fun s=>isTrue (runFn Tryz.prog [] (orcExt Tryz.prog) 60 136 #[.string s] (heapOf vars)))=true:=by kernel_rfl
theorem isNm_aby {s:ByteArray} (h:s∈([⟨#[97]⟩,⟨#[98]⟩,⟨#[121]⟩]:List ByteArray)):IsNm s:=by
 obtain⟨h',e⟩:=isTrue_iff (List.all_eq_true.1 isname_aby s h)
 have c:=(runFn_sound hM hP (fun f vs h v e=>orcExt_sound f vs h v e) 60 _ _ _ _ _ e).1
 exact⟨PureV.flatB rfl,fun h b=>c.lift (by kernel_rfl) rfl (bears_vars (hasSize b) (hasVars b))⟩
theorem gate_node {i:Nat}{x:Node} (h:gateC.nodes[i]?=some x):(i=0∧x=⟨0,[],0,0⟩)∨(i=1∧x=⟨0,[],0,0⟩)∨(i=2∧x=⟨5,[0,1],0,0⟩):=by
 have hi:=lt_of_get h
 have hi:i<3:=hi
 have:i=0∨i=1∨i=2:=by omega
 rcases this with rfl|rfl|rfl
 ·cases h;exact .inl ⟨rfl,rfl⟩
 ·cases h;exact .inr (.inl ⟨rfl,rfl⟩)
 ·cases h;exact .inr (.inr ⟨rfl,rfl⟩)
theorem gate_plz:Plz gateC:=by
 have node:∀ i x,gateC.nodes[i]?=some x→GoodN gateC i x:=by
  intro i x h
  rcases gate_node h with⟨rfl,rfl⟩|⟨rfl,rfl⟩|⟨rfl,rfl⟩
  ·exact⟨(by decide:0≤15),(by decide:Arity 0 0),(fun k m=>by cases m),(fun e=>by cases e),fun _=>⟨rfl,rfl⟩,(fun e=>by cases e),fun e=>absurd e (by decide:¬ 1≤0)⟩
  ·exact⟨(by decide:0≤15),(by decide:Arity 0 0),(fun k m=>by cases m),(fun e=>by cases e),fun _=>⟨rfl,rfl⟩,(fun e=>by cases e),fun e=>absurd e (by decide:¬ 1≤0)⟩
  ·exact⟨(by decide:5≤15),(by decide:Arity 5 2),(by decide:∀ k∈[0,1],k<3),(fun e=>by cases e),fun _=>⟨rfl,rfl⟩,(fun e=>by cases e),fun _ _=>(by decide:∀ k∈[0,1],k<2)⟩
 have F:FanOk gateC:=fan_ok ⟨by decide,fun i x h=>⟨(node i x h).ins,(node i x h).few⟩⟩
 have N:NamesOk gateC:=by
  refine FnV.of_walk (enc:=i64) (PureV.flat rfl) fun h hB=>?_
  exact names_all_walk (K:=fun r=>r=0) (names_all_vc (fun s m=>isNm_aby m) (by decide) (by decide) rfl) hB
 refine⟨⟨⟨by decide,rfl,N,F,(fun m h=>by cases h),by decide,by decide,by decide,node,by decide⟩,rfl,fun i x h=>?_⟩,fun i x h=>?_⟩
 ·rcases gate_node h with⟨rfl,rfl⟩|⟨rfl,rfl⟩|⟨rfl,rfl⟩ <;> decide
 ·rcases gate_node h with⟨rfl,rfl⟩|⟨rfl,rfl⟩|⟨rfl,rfl⟩ <;> decide
theorem gate_full {a b:Nat} (ha:a≤1) (hb:b≤1):Full gateC ⟨[a,b],[]⟩:=by
 have key:∀ v∈([a,b]:List Nat),v≤1:=by
  intro v m
  simp only[List.mem_cons,List.not_mem_nil,or_false] at m
  rcases m with rfl|rfl
  ·exact ha
  ·exact hb
 exact⟨⟨rfl,rfl,fun v m=>Nat.le_trans (key v m) (by decide),fun v m=>by cases m⟩,key,fun v m=>by cases m⟩
theorem lives17_vc {K:Bool→Prop} (h:K true):probecardlaw17_lives_wp K:=by
 have e1:(linesN gateC).filter (critL gateC ⟨[1,1],[]⟩)=[⟨0,-1⟩,⟨1,-1⟩,⟨2,-1⟩,⟨2,0⟩,⟨2,1⟩]:=by decide +kernel
 have e2:(linesN gateC).filter (critL gateC ⟨[0,1],[]⟩)=[⟨0,-1⟩,⟨2,-1⟩,⟨2,0⟩]:=by decide +kernel
 have e3:(linesN gateC).filter (critL gateC ⟨[0,0],[]⟩)=[⟨2,-1⟩]:=by decide +kernel
 unfold probecardlaw17_lives_wp probecardlaw17_gate_wp
 refine Critical_vc gate_plz (gate_full (by decide) (by decide)) (Critical_vc gate_plz (gate_full (by decide) (by decide)) (Critical_vc gate_plz (gate_full (by decide) (by decide)) ?_))
 rw[e1,e2,e3]
 refine joinB' (a:=false) (fun G=>⟨(fun q=>by cases q),fun _=>⟨(fun q=>by cases q),fun _=>⟨(fun q=>by cases q),fun _=>⟨(fun q=>by cases q),fun _=>⟨(fun q=>by cases q),fun _=>G⟩⟩⟩⟩⟩) ⟨(fun q=>by cases q),fun _=>?_⟩
 refine⟨_,rfl,fun _=>⟨_,rfl,fun _=>⟨_,rfl,fun _=>⟨_,rfl,_,rfl,fun _=>⟨_,rfl,h⟩,(fun q=>by cases q)⟩,(fun q=>by cases q)⟩,(fun q=>by cases q)⟩,(fun q=>by cases q)⟩
theorem netOf_lt {c:Circ} (C:Cir c) {l:LnZ} (hl:l∈linesN c):netOf c l<c.nodes.length:=by
 obtain⟨h1,h2⟩:=line_mem.1 hl
 unfold netOf
 rcases h2 with e|⟨j,e,hj⟩
 ·rw[e,if_pos (by decide)];exact h1
 ·have hneg:¬ l.pin<0:=by rw[e];exact Int.not_lt.2 (Int.natCast_nonneg j)
  obtain⟨x,hx⟩:=get_lt h1
  rw[insOf_eq hx] at hj
  rw[if_neg hneg,e,insOf_eq hx]
  exact (C.good.node _ x hx).ins _ (getD_mem hj)
theorem line_stuck {c:Circ}{l:LnZ} (hl:l∈linesN c) {v:Nat} (hv:v≤1):StuckOk c ⟨0,l,v,0⟩:=by
 obtain⟨h1,h2⟩:=line_mem.1 hl
 refine⟨rfl,hv,rfl,h1,?_,?_⟩
 ·rcases h2 with e|⟨j,e,_⟩
  ·dsimp only;rw[e];decide
  ·dsimp only;rw[e];simp only[Int.ofNat_eq_natCast];omega
 ·rcases h2 with e|⟨j,e,hj⟩
  ·dsimp only;rw[e];exact Int.lt_of_lt_of_le (show Int.negSucc 0<0 by decide) (Int.natCast_nonneg _)
  ·dsimp only;rw[e];simp only[Int.ofNat_eq_natCast];omega
theorem stuck_line {c:Circ}{f:Flt} (F:StuckOk c f):f.line∈linesN c:=by
 refine line_mem.2 ⟨F.node,?_⟩
 have h1:=F.pin1
 have h2:=F.pin2
 simp only[Int.ofNat_eq_natCast] at h2
 by_cases e:f.line.pin<0
 ·left;omega
 ·right
  exact⟨f.line.pin.toNat,by simp only[Int.ofNat_eq_natCast];omega,by omega⟩
theorem mget_set {κ ν:Type} [DecidableEq κ] (m:List (κ×ν)) (k k':κ) (v:ν):mget (mset m k v) k'=if k'=k then some v else mget m k':=by
 induction m with
 |nil=>unfold mset mget mget;rfl
 |cons a m ih =>
  unfold mset
  by_cases e:k=a.1
  ·rw[if_pos e]
   unfold mget
   by_cases e2:k'=k
   ·rw[if_pos e2,if_pos e2]
   ·rw[if_neg e2,if_neg e2,if_neg (fun q=>e2 (q.trans e.symm))]
  ·rw[if_neg e]
   unfold mget
   by_cases e2:k'=a.1
   ·rw[if_pos e2,if_pos e2,if_neg (fun q=>e (q.symm.trans e2))]
   ·rw[if_neg e2,if_neg e2,ih]
theorem setAll_vc {κ:Type} [DecidableEq κ] {l:List κ} (hl:l.length<2 ^ 60) {rest:List (κ×Bool)→Prop} (h:∀ m:List (κ×Bool),(∀ x,(mget m x).getD false=decide (x∈l))→rest m) :
  loopW (S:=((List (κ×Bool))×Nat)) (fun (v17,v18) nx19=>((ltN v18 l.length)=true→∃ x20,l[v18]?=some x20∧v18+1<2 ^ 63∧nx19 ((mset v17 x20 true),(v18+1)))∧((ltN v18 l.length)=false→rest v17)) (([]:List (κ×Bool)),0):=by
 refine loopW_intro (fun s=>s.2≤l.length∧∀ x,(mget s.1 x).getD false=decide (x∈l.take s.2)) (fun s=>l.length-s.2) ?_ ⟨Nat.zero_le _,fun x=>by simp[mget]⟩
 rintro⟨m,i⟩ nx ⟨hi,hm⟩ hnx
 dsimp only at hi hm
 refine⟨fun q=>?_,fun q=>?_⟩
 ·have q:i<l.length:=lt_t.1 q
  obtain⟨y,hy⟩:=get_lt q
  refine⟨y,hy,by omega,hnx _ ⟨q,fun x=>?_⟩ (by dsimp only;omega)⟩
  dsimp only
  rw[mget_set,takeG hy]
  by_cases e:x=y
  ·rw[if_pos e,decide_eq_true (snoc_mem.2 (.inr e))];rfl
  ·rw[if_neg e,hm,Bool.eq_iff_iff,decide_eq_true_eq,decide_eq_true_eq,snoc_mem]
   exact⟨.inl,fun q=>q.resolve_right e⟩
 ·have q:l.length≤i:=lt_f.1 q
  rw[List.take_of_length_le q] at hm
  exact h m hm
theorem readS_eq {t:List Nat}{k j y:Nat}{x:Node} (hj:x.ins[j]?=some y):readV (pinF k (Int.ofNat j) (t.getD y 0)) t k x=readV idP t k x:=by
 unfold readV
 refine List.ext_getElem (by simp) fun a b d=>?_
 simp only[List.getElem_mapIdx]
 unfold pinF idP
 have ha:a<x.ins.length:=by simpa using b
 by_cases e:a=j
 ·subst e
  rw[List.getElem?_eq_getElem ha] at hj
  cases hj
  rw[if_pos ⟨rfl,rfl⟩]
 ·rw[if_neg]
  rintro⟨_,q⟩
  exact e (Int.ofNat.inj q)
theorem det_val {c:Circ} (P:Plz c) {p:Pat} (F:Full c p) {f:Flt} (S:StuckOk c f):detB c p f=(critL c p f.line&&neN ((valV c p).getD (netOf c f.line) 0) f.value):=by
 have C:=P.cir
 have hl:=stuck_line S
 have hv:=S.value
 obtain⟨h1,h2⟩:=line_mem.1 hl
 obtain⟨mo,⟨a,b⟩,v,ot⟩:=f
 have e1:mo=0:=S.model
 have e2:ot=0:=S.other
 subst e1 e2
 dsimp only at h1 h2 hv ⊢
 have hb:=V_bin P F (netOf c ⟨a,b⟩)
 by_cases e:(valV c p).getD (netOf c ⟨a,b⟩) 0=v
 ·rw[ne_f.2 e,Bool.and_false]
  rcases h2 with rfl|⟨j,rfl,hj⟩
  ·rw[det_net]
   rw[netOf_net] at e
   rw[← e]
   exact detN_same C F.pat
  ·obtain⟨x,hx⟩:=get_lt h1
   rw[insOf_eq hx] at hj
   obtain⟨y,hy⟩:=get_lt hj
   have:netOf c ⟨a,Int.ofNat j⟩=y:=by rw[netOf_pin,insOf_eq hx];exact getD_eq hy
   rw[this] at e
   rw[det_pin,← e]
   by_cases hk:x.kind=14
   ·obtain⟨z,hz,_,hd,hlen⟩:=dff_pin C (c:=c) (s:=a) (ofN_mem.2 ⟨h1,by rw[kd_eq hx];exact hk⟩)
    rw[hx] at hz;cases hz
    have j0:j=0:=by omega
    subst j0
    have:dOf c a=y:=by rw[insOf_eq hx,hy] at hd;exact (Option.some.inj hd).symm
    rw[detP_state C F.pat ((V_sol C F.pat).le y) hx hk,this,decide_eq_false (con_irr _)]
   ·have hc:=pin_comb P hx hy hk
    rw[pin_gate C F.pat ((V_sol C F.pat).le y) hx hc,readS_eq hy]
    have:evalG x.kind (readV idP (valV c p) a x)=(valV c p).getD a 0:=by
     rw[(V_sol C F.pat).val a x hx,comb_base hc]
     rfl
    rw[this]
    exact detN_same C F.pat
 ·rw[ne_t.2 e,Bool.and_true]
  have:v=notN ((valV c p).getD (netOf c ⟨a,b⟩) 0):=by rw[notN_bin hb];omega
  unfold critL
  rw[this]
theorem Detected_vc {c:Circ} (P:Plz c) {p:Pat} (F:Full c p) {l:List Flt} (hl:l.length≤1000) (hf:∀ f∈l,StuckOk c f) {K:List Bool×Nat→Prop} (h:K (l.map (detB c p),0)):traces_Detected_wp c l p K:=by
 have C:=P.cir
 have V:=V_sol C F.pat
 have hL:=linesN_len C
 unfold traces_Detected_wp
 refine tplain_vc P ⟨(fun q=>absurd rfl (ne_t.1 q)),fun _=>⟨fun q=>absurd (lt_t.1 q) (by omega),fun _=>?_⟩⟩
 refine joinLoop (fun i=>i≤l.length) (fun i=>l.length-i) (fun _=>True) ?_ (Nat.zero_le _) ?_
 ·intro k i nx hi hnx hk
  refine⟨fun q=>?_,fun q=>hk () trivial⟩
  have q:i<l.length:=lt_t.1 q
  obtain⟨f,hg⟩:=get_lt q
  have S:=hf f (List.mem_of_getElem? hg)
  exact⟨f,hg,fcheck_vc C S ⟨(fun q=>absurd rfl (ne_t.1 q)),fun _=>⟨fun q=>absurd S.model (ne_t.1 q),fun _=>⟨by omega,hnx _ q (by omega)⟩⟩⟩⟩
 intro _ _
 refine tfull_vc C F ⟨(fun q=>absurd rfl (ne_t.1 q)),fun _=>runV_vc C F.pat ?_⟩
 refine joinP (fun m:List (LnZ×Bool)=>∀ x,(mget m x).getD false=decide (x∈linesN c∧critL c p x=true)) (fun k hk=>critical_vc P F fun r hr1 hr2=>setAll_vc ?_ fun m hm=>hk m fun x=>?_) ?_
 ·have:=nodupLen hr1 fun l hl=>((hr2 l).1 hl).1
  omega
 ·rw[hm]
  exact decide_eq_decide.2 (hr2 x)
 intro m hm
 refine⟨by omega,by omega,?_⟩
 refine joinLoop (fun s=>s.2≤l.length∧s.1.length=l.length∧∀ j f,j<s.2→l[j]?=some f→s.1[j]?=some (detB c p f)) (fun s=>l.length-s.2) (fun r=>r=l.map (detB c p)) ?_ ⟨Nat.zero_le _,by simp,fun j f hj=>absurd hj (Nat.not_lt_zero _)⟩ ?_
 ·rintro k ⟨o,i⟩ nx ⟨hi,ho,hv⟩ hnx hk
  dsimp only at hi ho hv
  refine⟨fun q=>?_,fun q=>hk _ ?_⟩
  ·have q:i<l.length:=lt_t.1 q
   obtain⟨f,hg⟩:=get_lt q
   have S:=hf f (List.mem_of_getElem? hg)
   have hline:=stuck_line S
   have hn:=netOf_lt C hline
   obtain⟨w,hw⟩:=get_lt (show i<o.length by omega)
   have e:=det_val P F S
   refine joinP (fun r=>r=o.set i (detB c p f)) (fun k2 hk2=>⟨f,hg,?_⟩) ?_
   ·refine joinB' (a:=netOf c f.line) (fun G=>?_) ⟨fun q2=>⟨_,getN V.len hn,q,w,hw,hk2 _ ?_⟩,fun q2=>⟨q,w,hw,hk2 _ ?_⟩⟩
    ·obtain⟨h1,h2⟩:=line_mem.1 hline
     unfold netOf at G
     rcases h2 with e2|⟨j,e2,hj⟩
     ·rw[e2,if_pos (by decide)] at G
      exact⟨(fun q=>by rw[e2] at q;cases q),fun _=>G⟩
     ·have hneg:¬ f.line.pin<0:=by rw[e2];exact Int.not_lt.2 (Int.natCast_nonneg j)
      rw[if_neg hneg] at G
      obtain⟨x,hx⟩:=get_lt h1
      rw[insOf_eq hx] at hj G
      refine⟨fun _=>⟨x,hx,j,e2,_,getD_some hj,?_⟩,fun q=>?_⟩
      ·rw[e2] at G;exact G
      ·have:=ltZ_t.1 (nb_f q);exact absurd this hneg
    ·rw[hm,decide_eq_true_eq] at q2
     rw[e,q2.2,Bool.true_and]
    ·rw[hm,decide_eq_false_iff_not] at q2
     have:critL c p f.line=false:=by
      rw[Bool.eq_false_iff]
      exact fun h=>q2 ⟨hline,h⟩
     rw[e,this,Bool.false_and]
   ·rintro _ rfl
    refine⟨by omega,hnx _ ⟨q,by simp[ho],fun j g hj hgj=>?_⟩ (by dsimp only;omega)⟩
    dsimp only
    by_cases e2:j=i
    ·subst e2
     rw[hg] at hgj;cases hgj
     rw[List.getElem?_set_self (by omega)]
    ·rw[List.getElem?_set_ne (fun h=>e2 h.symm)]
     exact hv j g (by dsimp only at hj;omega) hgj
  ·have q:l.length≤i:=lt_f.1 q
   refine List.ext_getElem (by simp[ho]) fun j a b=>?_
   have hj:j<l.length:=by omega
   have:=hv j _ (by omega) (List.getElem?_eq_getElem hj)
   rw[List.getElem?_eq_getElem a] at this
   rw[List.getElem_map]
   exact Option.some.inj this
 ·rintro _ rfl
  exact⟨by simp,h⟩
theorem of12_vc {c:Circ} (C:Cir c) {z:FData} (hz:FB z) (h0:z.model%4<2) {K:Flt→Prop} (h:∀ l v,l∈linesN c→v≤1→K ⟨z.model%4,l,v,0⟩):law12_F_Of_wp z c K:=by
 have hlen:=C.len
 have hpos:=C.good.pos
 have hn:z.node%c.nodes.length<c.nodes.length:=Nat.mod_lt _ hpos
 obtain⟨x,hx⟩:=get_lt hn
 have hfew:=(C.good.node _ x hx).few
 unfold law12_F_Of_wp
 refine⟨fun q=>absurd (eq_t.1 q) (by omega),fun _=>⟨by decide,hz.node,hpos,?_⟩⟩
 refine joinP (fun v=>v≤1) (fun k hk=>⟨fun _=>hk _ (by decide),fun _=>hk _ (by decide)⟩) fun v hv=>?_
 refine joinB' (a:=(z.model%4,z.node%c.nodes.length,v)) (fun G=>⟨fun q=>absurd (nlt_t.1 q) (by omega),fun _=>G⟩) ?_
 refine⟨hz.pin,x,hx,by omega,by omega,?_,?_,h _ v (line_mem.2 ⟨hn,?_⟩) hv⟩
 ·simp only[Int.ofNat_eq_natCast];omega
 ·have:=Nat.mod_lt z.pin (show 0<x.ins.length+1 by omega)
  simp only[Int.ofNat_eq_natCast];omega
 ·dsimp only
  have hm:=Nat.mod_lt z.pin (show 0<x.ins.length+1 by omega)
  rw[insOf_eq hx]
  by_cases e:z.pin%(x.ins.length+1)=0
  ·left;rw[e];rfl
  ·right
   exact⟨z.pin%(x.ins.length+1)-1,by simp only[Int.ofNat_eq_natCast];omega,by omega⟩
theorem tracesDetected_vc {x:CData} (hx:CB x) {z:List FData} (hz:∀ f∈z,FB f) {n:Nat}{K:Bool→Prop} (h:K true):probecardlaw17_TracesDetected_wp x z n K:=by
 have P:=plz_circ (x:=noMem (noBus x)) rfl rfl
 unfold probecardlaw17_TracesDetected_wp
 refine plain12_vc hx ?_
 generalize circN (noMem (noBus x))=c at P ⊢
 have C:=P.cir
 have hlen:=C.len
 refine full12_vc C fun p F=>?_
 refine joinLoop (fun s=>s.2≤80∧s.2≤z.length∧s.1.length=s.2∧∀ f∈s.1,StuckOk c f) (fun s=>80-s.2) (fun l=>l.length≤80∧∀ f∈l,StuckOk c f) ?_ ⟨Nat.zero_le _,Nat.zero_le _,rfl,fun f m=>by cases m⟩ ?_
 ·rintro k ⟨l,i⟩ nx ⟨hi,hi2,hl,hf⟩ hnx hk
  dsimp only at hi hi2 hl hf
  refine joinB' (a:=decide (i<z.length)&&decide (i<80)) (fun G=>⟨fun q=>?_,fun q=>?_⟩) ⟨fun q=>?_,fun q=>hk l ⟨by omega,hf⟩⟩
  ·have:ltN i 80=(decide (i<z.length)&&decide (i<80)):=by rw[ltN_eq,decide_eq_true (lt_t.1 q)];rfl
   rw[this];exact G
  ·rw[decide_eq_false (Nat.not_lt.2 (lt_f.1 q)),Bool.false_and] at G;exact G
  ·rw[Bool.and_eq_true,decide_eq_true_eq,decide_eq_true_eq] at q
   obtain⟨f,hg⟩:=get_lt q.1
   have w:=hz f (List.mem_of_getElem? hg)
   refine⟨f,hg,of12_vc (z:=⟨0,f.node,f.pin,f.other,f.one⟩) C ⟨(show 0<256 by decide),w.node,w.pin,w.other⟩ (show 0%4<2 by decide) fun ln v h1 h2=>⟨?_,by omega,hnx _ ⟨by dsimp only;omega,by dsimp only;omega,?_,fun g hg=>?_⟩ (by dsimp only;omega)⟩⟩
   ·simp only[List.length_singleton];omega
   ·simp only[List.length_append,List.length_singleton,hl]
   ·rcases snoc_mem.1 hg with hg|rfl
    ·exact hf g hg
    ·exact line_stuck h1 h2
 rintro l ⟨hl,hf⟩
 refine Detected_vc P F (by omega) hf ?_
 refine joinB' (a:=false) (fun G=>⟨fun q=>absurd rfl (ne_t.1 q),fun _=>⟨fun q=>absurd (by simp) (ne_t.1 q),fun _=>?_⟩⟩) ⟨(fun q=>by cases q),fun _=>?_⟩
 ·rw[ne_f.2 rfl];exact G
 refine joinLoop (fun i=>i≤l.length) (fun i=>l.length-i) (fun _=>True) ?_ (Nat.zero_le _) (fun _ _=>lives17_vc h)
 intro k i nx hi hnx hk
 refine⟨fun q=>?_,fun q=>hk () trivial⟩
 have q:i<l.length:=lt_t.1 q
 obtain⟨f,hg⟩:=get_lt q
 refine⟨f,hg,detects_vc C F.pat (hf f (List.mem_of_getElem? hg)) (joinB' (a:=false) (fun G=>⟨fun q=>absurd rfl (ne_t.1 q),fun _=>⟨detB c p f,by rw[List.getElem?_map,hg];rfl,?_⟩⟩) ⟨(fun q=>by cases q),fun _=>⟨by omega,hnx _ q (by omega)⟩⟩)⟩
 dsimp only
 rw[bne_self_eq_false]
 exact G
def tracesDetected_sh:List (Sh×Bool):=[(shC,true),(.slice shF,false),(shU64,false)]
theorem tracesDetected_call (x:DenL tracesDetected_sh) (w:wfL tracesDetected_sh x):FnV Tryz.prog NG vars 7 ⟨argL tracesDetected_sh x⟩ (.bool true):=by
 obtain⟨c,z,n,u⟩:=x
 obtain⟨wc,wz,wn,_⟩:=w
 obtain⟨y,hy,e1⟩:=c_arg wc
 obtain⟨l,hl,e2⟩:=faults_arg wz
 obtain⟨n,hn,rfl⟩:=u64_of wn
 have e:argL tracesDetected_sh (c,z,Int.ofNat n,u)=[encC y,encL 5 encF l,n64 n]:=by
  show [elV (!true) (shC.cellsF c),elV (!false) ((Sh.slice shF).cellsF z),elV (!false) (shU64.cellsF (Int.ofNat n))]=_
  rw[e1,e2];rfl
 rw[e]
 exact FnV.of_walk (enc:=Value.bool) (r:=true) (PureV.flat rfl) fun h hB=>probecardlaw17_TracesDetected_walk (K:=fun r=>r=true) (tracesDetected_vc hy hl rfl) hB
end Go.Proofs.YtmhbhclfojmjdaaGreatDoor
namespace Go.Proofs.YtmhbhclfojmjdaaGreatDoor
open Go.Abs Go.ChangeShapes Go.RowKit Go.ChangeAt
set_option maxRecDepth 100000
def tracesDetected_shape:List (Sh×Bool):=tracesDetected_sh
theorem tracesDetected_lifted (os:Os) (started:os.Started) (H:Type) (enc:TypeId×Value→H) :
  ReturnsInHanded {} Tryz.checked os 7 .any (fun w args=>(Rows.tracesDetectedSpec.pre enc Tryz.prog Tryz.f7 [] false w args∧laidMetH Tryz.prog laid w)∧sizedMet enc Tryz.prog Tryz.f7 (OpenSpec.ofChange Rows.tracesDetectedSpec) false w args)
   (Rows.tracesDetectedSpec.post enc Tryz.prog Tryz.f7 false true false false):=by
 refine law_lift (C:=Tryz.checked) (X:=fun w _=>laidMetH Tryz.prog laid w) (fun _ _ _ hh h=>h.of_heap hh) own started (by kernel_rfl) Tryz.func7
  (ChangeSpec.witness_shaped (enc:=enc) (C:=Tryz.checked) (os:=os) (X:=fun w _=>laidMetH Tryz.prog laid w) false (World.doorLaid Tryz.prog 400 os) #[.agg #[u8 0,u8 0,u8 0,u8 0,.bool false,.bool false,u8 0,u8 0,u8 0,u8 0,.slice none 0 0,.slice none 0 0],.slice none 0 0,.int .u64 0] 8 rfl (World.shaped_of_RefB (by kernel_rfl) (by kernel_rfl)) (by kernel_rfl) (by kernel_rfl) (by kernel_rfl) (door_met os _))
  laidOut rfl (fun ds hds=>?_) (by kernel_rfl) (tb:=4) (by kernel_rfl) Tryz.underlying4
  (law_run (d:=24) tracesDetected_shape Tryz.func7 rfl (by rw[Tryz.params7];exact⟨by kernel_rfl,by kernel_rfl,by kernel_rfl,by kernel_rfl,by kernel_rfl,by kernel_rfl,trivial⟩) tracesDetected_call)
 rw[Tryz.params7] at hds
 match ds,hds with
 |[d0,d1,d2],_=>rfl
theorem tracesDetected_holds:Rows.TracesDetectedSaid :=
 OpenClaim.holds_of_wide 7 Tryz.f7 rfl rfl rfl rfl rfl rfl rfl ⟨rfl,rfl,rfl,rfl,rfl⟩ rfl rfl rfl rfl rfl (by kernel_rfl) Tryz.func7 (by kernel_rfl)
  (of_decide_eq_true (by kernel_rfl)) (by unfold Func.isWrapper;first | (rw[if_pos (by decide +kernel)];kernel_rfl) | (rw[if_neg (by decide +kernel)];exact⟨rfl,rfl⟩))
  (fun os started H enc _=>tracesDetected_lifted os started H enc)
theorem tracesDetected_card:Rows.TracesDetectedCardSaid :=
 Claim7.holds_tied_plain_at .later [] [.data] true (true, "aa86e69c7179e377005e4043d2b0d2688cd9df462eac80e1753cba7a177585ef") false
  tracesDetected_holds (fun _ h=>by cases h) (by kernel_rfl) (fun _ h=>by cases h) tracesDetected_row_tie rfl ⟨rfl,rfl⟩ (by kernel_rfl) rfl
  (fun f fn hf hfn=>by
   obtain rfl : f = 7 := Option.some.inj ((show Tryz.prog.funcNamed "probecard/probecardlaw17.TracesDetected" = some 7 by kernel_rfl).symm.trans hf) |>.symm
   obtain rfl:fn=Tryz.f7:=(Option.some.inj (Tryz.func7.symm.trans hfn)).symm
   exact⟨by kernel_rfl,fun j t ht=>by
    have hm:=Array.mem_of_getElem? ht
    have hall:(Tryz.f7.params.all fun u => !Tryz.prog.wantsStandIn u)=true:=by kernel_rfl
    exact (show Tryz.prog.wantsStandIn t=false by simpa using Array.all_eq_true_iff_forall_mem.1 hall t hm)⟩)
  (by kernel_rfl)
#print axioms tracesDetected_card
end Go.Proofs.YtmhbhclfojmjdaaGreatDoor
