/-
  U4, U5, Plz, Tp1, Tp2, Gat, Tp3, Tp4, Tp5, Tp6, Tp7, Tp8, Tp9, Tw1, Tpa: parts of the proof.
-/
import Derived.Test.YtlbeebglhebpjaaGreatDoorTt47
namespace Go.Proofs.YtlbeebglhebpjaaGreatDoor
open Go.Abs
set_option maxRecDepth 100000
structure StuckOk (c:Circ) (f:Flt):Prop where
 model:f.model=0
 value:f.value<=1
 other:f.other=0
 node:f.line.node<c.nodes.length
 pin1 : -1<=f.line.pin
 pin2:f.line.pin<Int.ofNat (insOf c f.line.node).length
theorem vB {c:Circ} (C:Cir c) {K:Nat->Prop} (h:K 0):cD c K:=by
 unfold cD
 refine AL C.good ⟨(fun q=>absurd rfl (dV.1 q)),fun _=>⟨fun q=>?_,fun _=>h⟩⟩
 have:=aQ.1 q
 rw[C.mems] at this
 exact absurd this (Nat.not_lt_zero _)
theorem CC {c:Circ}{l:LnZ} (h1:l.node<c.nodes.length) (h2 : -1<=l.pin) (h3:l.pin<Int.ofNat (insOf c l.node).length) {K:Bool->Prop} (h:K true):dD c l K:=by
 unfold dD
 refine⟨fun _=>⟨fun _=>⟨fun _=>?_,fun q=>?_⟩,fun q=>?_⟩,fun q=>?_⟩
 ·obtain⟨x,hx⟩:=aw h1
  refine⟨x,hx,?_⟩
  rw[bp hx] at h3
  rw[qm.2 h3];exact h
 ·have:ltI l.pin (Int.negSucc 0)=true:=by revert q;cases ltI l.pin (Int.negSucc 0) <;> simp
  have:l.pin<Int.negSucc 0:=qm.1 this
  omega
 ·have:=bk.1 q;omega
 ·have:=oT.1 q;omega
theorem CK {a w:Nat} (h:w<=3):∀ i v,v<=3->sg a w i v<=3:=by intro i v hv;unfold sg;split <;> omega
theorem DG:∀ i v,v<=3->idN i v<=3:=fun _ _ h=>h
theorem mH:∀ m j v,v<=3->idP m j v<=3:=fun _ _ _ h=>h
def bP (c:Circ) (p:Pat):List Nat:=sol c p idN idP
theorem nE {c:Circ} (C:Cir c) {p:Pat} (hp:PatOk c p) {K:Rsp×List Nat×Nat->Prop} (h:K (nI c idP (bP c p),bP c p,0)):cq c p K:=Di C hp h
def Con (a b:Nat):Prop:=a<=1/\b<=1/\a≠b
instance (a b:Nat):Decidable (Con a b):=by unfold Con;infer_instance
def pC (a b:List Nat):List Nat:=(List.range (min a.length b.length)).filter fun i=>decide (Con (a.getD i 0) (b.getD i 0))
theorem C5 {p:Nat->Bool}{i:Nat}:(List.range (i+1)).filter p=(List.range i).filter p++(if p i=true then [i] else []):=by
 rw[List.range_succ,List.filter_append]
 congr 1
 rw[List.filter_cons]
 split <;> rfl
theorem ub {p:Nat->Bool}{i:Nat}:((List.range i).filter p).length<=i:=by
 have:=List.length_filter_le p (List.range i)
 rwa [List.length_range] at this
theorem pf {a b:List Nat} (ha:a.length<=1000) {K:List Nat->Prop} (h:K (pC a b)):bM a b K:=by
 unfold bM
 have hmin:min a.length b.length<=1000:=by omega
 refine aD (fun s=>s.2<=min a.length b.length/\s.1=(List.range s.2).filter fun i=>decide (Con (a.getD i 0) (b.getD i 0))) (fun s=>min a.length b.length-s.2) (fun r=>r=pC a b) ?_ ⟨Nat.zero_le _,rfl⟩ (fun _ e=>e ▸ h)
 rintro k ⟨l,i⟩ nx ⟨hi,hl⟩ hnx hk
 dsimp only at hi hl
 refine⟨fun q=>?_,fun q=>hk _ ?_⟩
 ·have q:i<min a.length b.length:=aQ.1 q
  have ga:=getD_some (l:=a) (i:=i) (by omega)
  have gb:=getD_some (l:=b) (i:=i) (by omega)
  have hll:=@ub (fun i=>decide (Con (a.getD i 0) (b.getD i 0))) i
  rw[<- hl] at hll
  refine cg (a:=if Con (a.getD i 0) (b.getD i 0) then l++[i] else l) (fun G=>?_) ⟨by omega,hnx _ ⟨q,?_⟩ (by dsimp only;omega)⟩
  ·refine cg (a:=decide (Con (a.getD i 0) (b.getD i 0))) (fun G2=>⟨_,ga,fun e1=>⟨_,gb,fun e2=>⟨_,ga,_,gb,?_⟩,fun e2=>?_⟩,fun e1=>?_⟩) ⟨fun e=>?_,fun e=>?_⟩
   ·have e1:=mR.1 e1
    have e2:=mR.1 e2
    have:neN (a.getD i 0) (b.getD i 0)=decide (Con (a.getD i 0) (b.getD i 0)):=by
     by_cases q:a.getD i 0=b.getD i 0
     ·rw[pD.2 q,decide_eq_false (fun w:Con _ _=>w.2.2 q)]
     ·rw[dV.2 q,decide_eq_true (show Con _ _ from⟨e1,e2,q⟩)]
    rw[this];exact G2
   ·have e2:=oT.1 e2
    rw[decide_eq_false (fun w:Con _ _=>by have:=w.2.1;omega)] at G2;exact G2
   ·have e1:=oT.1 e1
    rw[decide_eq_false (fun w:Con _ _=>by have:=w.1;omega)] at G2;exact G2
   ·rw[if_pos (of_decide_eq_true e)] at G
    exact⟨by simp only[List.length_singleton];omega,G⟩
   ·rw[if_neg (of_decide_eq_false e)] at G;exact G
  ·dsimp only
   rw[C5,hl]
   by_cases e:Con (a.getD i 0) (b.getD i 0)
   ·rw[if_pos e,if_pos (decide_eq_true e)]
   ·rw[if_neg e,if_neg (by simpa using e),List.append_nil]
 ·have q:min a.length b.length<=i:=bk.1 q
  have e:i=min a.length b.length:=by omega
  subst e
  exact hl
theorem vi (a b:List Nat):(pC a b).length<=a.length:=by
 have:=@ub (fun i=>decide (Con (a.getD i 0) (b.getD i 0))) (min a.length b.length)
 unfold pC
 omega
theorem vH {a b:List Nat}{i:Nat}:i∈pC a b↔i<a.length/\i<b.length/\Con (a.getD i 0) (b.getD i 0):=by
 unfold pC
 rw[List.mem_filter,List.mem_range,decide_eq_true_eq,Nat.lt_min,and_assoc]
theorem zc {a b:Rsp} (h1:a.out.length<=1000) (h2:a.next.length<=1000) {K:List Nat×List Nat->Prop} (h:K (pC a.out b.out,pC a.next b.next)):cU a b K:=by
 unfold cU
 exact pf h1 (pf h2 h)
def yi (a b:Rsp):Bool:=ltN 0 ((pC a.out b.out).length+(pC a.next b.next).length)
theorem B0 {a b:Rsp} (h1:a.out.length<=1000) (h2:a.next.length<=1000) {K:Bool->Prop} (h:K (yi a b)):dw a b K:=by
 unfold dw
 have l1:=vi a.out b.out
 have l2:=vi a.next b.next
 exact zc h1 h2 ⟨by dsimp only;omega,h⟩
theorem Cq {c:Circ} (C:Cir c) (pn:Nat->Nat->Nat->Nat) (t:List Nat):(nI c pn t).out.length<=1000/\(nI c pn t).next.length<=1000:=by
 have:=C.good.outsLen
 have:=gq c [14]
 have:=C.len
 unfold nI
 simp only[List.length_map]
 omega
def dOf (c:Circ) (s:Nat):Nat:=(insOf c s).getD 0 0
theorem vw {c:Circ}{pn qn:Nat->Nat->Nat->Nat}{t u:List Nat}:yi (nI c pn t) (nI c qn u)=true↔(∃ o∈c.outs,Con (t.getD o 0) (u.getD o 0))\/∃ s∈ofN c [14],Con (min (pn s 0 (t.getD (dOf c s) 0)) 2) (min (qn s 0 (u.getD (dOf c s) 0)) 2):=by
 have key:∀ (l:List Nat) (f g:Nat->Nat),(pC (l.map f) (l.map g)).length≠0 ↔ ∃ o∈l,Con (f o) (g o):=by
  intro l f g
  rw[Ne,List.length_eq_zero_iff]
  constructor
  ·intro h
   obtain⟨i,hi⟩:=List.exists_mem_of_ne_nil _ h
   obtain⟨h1,_,h3⟩:=vH.1 hi
   rw[List.length_map] at h1
   refine⟨l[i],List.getElem_mem h1,?_⟩
   simpa[List.getD,h1] using h3
  ·rintro⟨o,hm,hc⟩ e
   obtain⟨i,hi,rfl⟩:=List.getElem_of_mem hm
   have:i∈pC (l.map f) (l.map g):=vH.2 ⟨by simpa using hi,by simpa using hi,by simpa[List.getD,hi] using hc⟩
   rw[e] at this
   cases this
 unfold yi nI
 dsimp only
 rw[aQ,<- key,<- key (ofN c [14]) (fun s=>min (pn s 0 (t.getD (dOf c s) 0)) 2)]
 unfold dOf
 omega
theorem xT (a:Nat):¬ Con a a:=fun h=>h.2.2 rfl
def vN (c:Circ) (p:Pat) (m w:Nat):List Nat:=sol c p (sg m w) idP
def A7 (c:Circ) (p:Pat) (m w:Nat):Bool:=yi (nI c idP (bP c p)) (nI c idP (vN c p m w))
theorem nc {c:Circ} (C:Cir c) {p:Pat} (hp:PatOk c p):Sol c p idN idP (bP c p):=rC C hp DG mH
theorem qL {c:Circ} (C:Cir c) {p:Pat} (hp:PatOk c p) {m w:Nat} (hw:w<=3):Sol c p (sg m w) idP (vN c p m w):=rC C hp (CK hw) mH
theorem xi {c:Circ} (C:Cir c) {k:Nat}{x:Node} (hx:c.nodes[k]?=some x) (hc:combB x.kind=true) {y:Nat} (hy:y∈x.ins):y<k:=by
 have hc:=of_decide_eq_true hc
 exact (C.good.node k x hx).acyc hc.1 hc.2 y hy
theorem D5 {c:Circ} (C:Cir c) {p:Pat} (hp:PatOk c p) {m w:Nat} (hw:w<=3) (hm:m<c.nodes.length):(vN c p m w).getD m 0=w:=by
 obtain⟨x,hx⟩:=aw hm
 rw[(qL C hp hw).val m x hx]
 unfold sg
 rw[if_pos rfl]
theorem CN {c:Circ} (C:Cir c) {p:Pat} (hp:PatOk c p) {m:Nat}:vN c p m ((bP c p).getD m 0)=bP c p:=by
 have V:=nc C hp
 have S:=qL C hp (m:=m) (V.le m)
 refine (Sol.eq C (⟨V.len,fun i y hy=>?_,V.le⟩:Sol c p (sg m ((bP c p).getD m 0)) idP _) S).symm
 rw[V.val i y hy]
 unfold sg idN
 split
 ·rename_i e
  subst e
  exact (V.val i y hy).symm
 ·rfl
theorem Au {c:Circ}{p:Pat}{m w:Nat}:A7 c p m w=true↔(∃ o∈c.outs,Con ((bP c p).getD o 0) ((vN c p m w).getD o 0))\/∃ s∈ofN c [14],Con (min ((bP c p).getD (dOf c s) 0) 2) (min ((vN c p m w).getD (dOf c s) 0) 2):=vw
theorem zp {c:Circ} (C:Cir c) {p:Pat} (hp:PatOk c p) {m:Nat}:A7 c p m ((bP c p).getD m 0)=false:=by
 rw[Bool.eq_false_iff]
 intro h
 unfold A7 at h
 rw[CN C hp] at h
 rcases vw.1 h with⟨o,_,q⟩|⟨s,_,q⟩
 ·exact xT _ q
 ·exact xT _ q
structure One (c:Circ) (m k j:Nat):Prop where
 pin:(insOf c k)[j]?=some m
 only:∀ k' j',(insOf c k')[j']?=some m->k'=k/\j'=j
 outs:m ∉ c.outs
theorem wL {c:Circ}{k j m:Nat} (h:(insOf c k)[j]?=some m):∃ x,c.nodes[k]?=some x/\x.ins[j]?=some m:=by
 cases e:c.nodes[k]? with
 |none =>
  exfalso
  unfold insOf at h
  rw[List.getD,List.getElem?_map,e] at h
  simp at h
 |some x=>rw[bp e] at h;exact⟨x,rfl,h⟩
theorem yn {c:Circ} (C:Cir c) {s:Nat} (hs:s∈ofN c [14]):∃ x,c.nodes[s]?=some x/\x.kind=14/\(insOf c s)[0]?=some (dOf c s)/\x.ins.length=1:=by
 obtain⟨h1,h2⟩:=cK.1 hs
 obtain⟨x,hx⟩:=aw h1
 rw[dj hx] at h2
 have ha:x.ins.length=1:=by have:=(C.good.node s x hx).arity;rw[h2] at this;exact nH this
 refine⟨x,hx,h2,?_,ha⟩
 unfold dOf
 rw[bp hx]
 exact getD_some (by omega)
structure Plz (c:Circ):Prop where
 cir:Cir c
 kinds:∀ (i:Nat) (x:Node),c.nodes[i]?=some x->x.kind≠12/\x.kind≠13
structure Full (c:Circ) (p:Pat):Prop where
 pat:PatOk c p
 inp:∀ v∈p.inp,v<=1
 state:∀ v∈p.state,v<=1
theorem ta {k:Nat}{l:List Nat} (hk0:1<=k) (hk:k<12) (h:∀ v∈l,v<=1):lM k l<=1:=by
 have g:∀ i,l.getD i 0<=1:=by
  intro i
  by_cases q:i<l.length
  ·exact h _ (fD q)
  ·rw[List.getD,List.getElem?_eq_none (by omega)];exact Nat.zero_le _
 have hn:∀ v,v<=1->eY v<=1:=fun v hv=>by unfold eY;split <;> omega
 have hd:∀ (low high:Nat) (l:List Nat),low+high=1->(∀ v∈l,v<=1)->∀ o,o<=1->eo low high l o<=1:=by
  intro low high l hs
  induction l with
  |nil=>intro _ o ho;exact ho
  |cons v r ih =>
   intro hv o ho
   have h1:=hv v (.head _)
   unfold eo
   split
   ·omega
   ·rw[if_pos (by omega)]
    exact ih (fun v m=>hv v (.tail _ m)) o ho
 have hx:∀ (l:List Nat),(∀ v∈l,v<=1)->∀ o,o<=1->fW l o<=1:=by
  intro l
  induction l with
  |nil=>intro _ o ho;exact ho
  |cons v r ih =>
   intro hv o ho
   have h1:=hv v (.head _)
   unfold fW
   rw[if_pos h1]
   refine ih (fun v m=>hv v (.tail _ m)) _ ?_
   have q1:o=0\/o=1:=by omega
   have q2:v=0\/v=1:=by omega
   rcases q1 with rfl|rfl <;> rcases q2 with rfl|rfl <;> decide
 have g0:=g 0
 have g1:=g 1
 have g2:=g 2
 unfold lM
 split;· omega
 split;· omega
 split;· omega
 split;· exact hn _ g0
 split;· exact hd 0 1 l rfl h 1 (by decide)
 split;· exact hn _ (hd 0 1 l rfl h 1 (by decide))
 split;· exact hd 1 0 l rfl h 0 (by decide)
 split;· exact hn _ (hd 1 0 l rfl h 0 (by decide))
 split;· exact hx l h 0 (by decide)
 split;· exact hn _ (hx l h 0 (by decide))
 split
 ·unfold se
  repeat' split
  all_goals omega
 ·omega
theorem Bu {c:Circ} (P:Plz c) {p:Pat} (F:Full c p):∀ i,(bP c p).getD i 0<=1:=by
 have C:=P.cir
 have V:=nc C F.pat
 have key:∀ n i,i<n->(bP c p).getD i 0<=1:=by
  intro n
  induction n with
  |zero=>intro i h;omega
  |succ n ih =>
   intro i hi
   by_cases q:i<c.nodes.length
   ·obtain⟨x,hx⟩:=aw q
    rw[V.val i x hx]
    unfold idN
    cases hc:combB x.kind with
    |true =>
     rw[jw hc]
     have hc':=of_decide_eq_true hc
     have:=P.kinds i x hx
     unfold eC
     rw[if_neg (by omega),if_neg (by omega)]
     refine ta hc'.1 (by omega) fun v hv=>?_
     unfold cc idP at hv
     rw[List.mem_mapIdx] at hv
     obtain⟨a,ha,rfl⟩:=hv
     exact ih _ (by have:=xi C hx hc (List.getElem_mem ha);omega)
    |false =>
     rw[gZ hc]
     have k2:∀ (l:List Nat) (j:Nat),(∀ v∈l,v<=1)->l.getD j 0<=1:=by
      intro l j h
      by_cases q:j<l.length
      ·exact h _ (fD q)
      ·rw[List.getD,List.getElem?_eq_none (by omega)];exact Nat.zero_le _
     unfold srcV
     split
     ·exact k2 _ _ F.inp
     split
     ·exact k2 _ _ F.state
     ·omega
   ·rw[List.getD,List.getElem?_eq_none (by rw[V.len];omega)];exact Nat.zero_le _
 exact fun i=>key (i+1) i (by omega)
def ObsN (c:Circ) (m:Nat):Prop:=m∈c.outs\/∃ s∈ofN c [14],dOf c s=m
structure Ld (c:Circ) (m k j:Nat):Prop where
 pin:(insOf c k)[j]?=some m
 kind:kd c k≠14
inductive Way (c:Circ):Nat->List Ln->Prop
 |stop {m:Nat}:ObsN c m->Way c m []
 |step {m k j:Nat} {l:List Ln}:Ld c m k j->Way c k l->Way c m (⟨k,j⟩::l)
inductive Pre (c:Circ) (s:Nat):Nat->List Ln->Prop
 |here:Pre c s s []
 |step {m k j:Nat} {l:List Ln}:Pre c s m l->Ld c m k j->Pre c s k (l++[⟨k,j⟩])
theorem Pre.way {c:Circ}{s m:Nat}{pre l:List Ln} (h:Pre c s m pre) (w:Way c m l):Way c s (pre++l):=by
 induction h generalizing l with
 |here=>exact w
 |step _ hd ih=>rw[List.append_assoc];exact ih (.step hd w)
theorem Way.fin {c:Circ}{s m:Nat}{pre l:List Ln} (h:Pre c s m pre) (w:Way c m l):∃ e,Pre c s e (pre++l)/\ObsN c e:=by
 induction w generalizing pre with
 |stop o=>exact⟨_,by rw[List.append_nil];exact h,o⟩
 |step hd _ ih =>
  obtain⟨e,h1,h2⟩:=ih (h.step hd)
  exact⟨e,by rw[List.append_assoc] at h1;exact h1,h2⟩
theorem Ld.node {c:Circ} (C:Cir c) {m k j:Nat} (h:Ld c m k j):∃ x,c.nodes[k]?=some x/\x.ins[j]?=some m/\combB x.kind=true:=by
 obtain⟨x,hx,hj⟩:=wL h.pin
 refine⟨x,hx,hj,?_⟩
 have hk:=h.kind
 rw[dj hx] at hk
 have h14:=C.kinds k x hx
 unfold combB
 refine decide_eq_true ⟨Nat.pos_of_ne_zero fun e=>?_,by omega⟩
 have a:=(C.good.node k x hx).arity
 rw[e] at a
 obtain⟨_,h2⟩:=a
 have e2:hiZ 0=0:=by decide
 rw[e2] at h2
 have:=ak hj
 simp only[Int.ofNat_eq_natCast] at h2
 omega
theorem Ld.lt {c:Circ} (C:Cir c) {m k j:Nat} (h:Ld c m k j):m<k:=by
 obtain⟨x,hx,hj,hc⟩:=h.node C
 exact xi C hx hc (List.mem_of_getElem? hj)
theorem Pre.le {c:Circ} (C:Cir c) {s m:Nat}{l:List Ln} (h:Pre c s m l):s<=m:=by
 induction h with
 |here=>exact Nat.le_refl _
 |step _ hd ih=>have:=hd.lt C;omega
theorem ObsN.lt {c:Circ} (C:Cir c) {m:Nat} (h:ObsN c m):m<c.nodes.length:=by
 rcases h with h|⟨s,hs,rfl⟩
 ·exact C.good.outs m h
 ·obtain⟨x,hx,_,hd,_⟩:=yn C hs
  rw[bp hx] at hd
  exact (C.good.node s x hx).ins _ (List.mem_of_getElem? hd)
def sh (t ins:List Nat) (j:Nat):List Nat:=ins.mapIdx fun i y=>if i=j then 1-t.getD y 0 else t.getD y 0
theorem BW {t ins:List Nat}{j:Nat} (h:∀ i,t.getD i 0<=1):∀ v∈sh t ins j,v<=1:=by
 intro v m
 unfold sh at m
 rw[List.mem_mapIdx] at m
 obtain⟨a,_,rfl⟩:=m
 have:=h (ins[a])
 split <;> omega
theorem DE {c:Circ} (C:Cir c) {p:Pat} (hp:PatOk c p) {s w:Nat} (hw:w<=3):∀ n m,m<n->(∀ pre,¬ Pre c s m pre)->(vN c p s w).getD m 0=(bP c p).getD m 0:=by
 have S:=qL C hp (m:=s) hw
 have V:=nc C hp
 intro n
 induction n with
 |zero=>intro m h;omega
 |succ n ih =>
  intro m hm hno
  by_cases q:m<c.nodes.length
  ·obtain⟨x,hx⟩:=aw q
   rw[S.val m x hx,V.val m x hx]
   unfold sg idN
   rw[if_neg (fun e=>hno [] (by rw[e];exact .here))]
   unfold baseV
   split
   ·rename_i hc
    congr 1
    refine iL fun y hy=>?_
    have hlt:=xi C hx hc hy
    refine ih y (by omega) fun pre hpre=>?_
    obtain⟨j,hj⟩:=List.mem_iff_getElem?.1 hy
    refine hno _ (hpre.step (j:=j) ⟨by rw[bp hx];exact hj,?_⟩)
    rw[dj hx]
    have:=of_decide_eq_true hc
    omega
   ·rfl
  ·rw[List.getD,List.getD,List.getElem?_eq_none (by rw[S.len];omega),List.getElem?_eq_none (by rw[V.len];omega)]
theorem zE {c:Circ} (P:Plz c) {k:Nat}{x:Node} (hx:c.nodes[k]?=some x) (hc:combB x.kind=true) {l:List Nat} (h:∀ v∈l,v<=1):eC x.kind l<=1:=by
 have hc':=of_decide_eq_true hc
 have:=P.kinds k x hx
 unfold eC
 rw[if_neg (by omega),if_neg (by omega)]
 exact ta hc'.1 (by omega) h
theorem xm {c:Circ} (P:Plz c) {p:Pat} (F:Full c p) {s:Nat} (hs:s<c.nodes.length) {l:List Ln} (W:Way c s l) (one:∀ l',Way c s l'->l'=l)
  (hl:∀ k j,(⟨k,j⟩:Ln)∈l->eC (kd c k) (sh (bP c p) (insOf c k) j)≠(bP c p).getD k 0):A7 c p s (1-(bP c p).getD s 0)=true:=by
 have C:=P.cir
 have hb:=Bu P F
 obtain⟨w,hwd⟩:∃ w,1-(bP c p).getD s 0=w:=⟨_,rfl⟩
 have hw:w<=3:=by omega
 have S:=qL C F.pat (m:=s) hw
 have key:∀ m pre,Pre c s m pre->∀ rest,Way c m rest->(vN c p s w).getD m 0=1-(bP c p).getD m 0:=by
  intro m pre h
  induction h with
  |here=>intro _ _;rw[D5 C F.pat hw hs,hwd]
  |@step m k j pre h hd ih =>
   intro rest hr
   have e1:=ih _ (.step hd hr)
   have el:=one _ ((h.step hd).way hr)
   obtain⟨x,hx,hj,hc⟩:=hd.node C
   have hks:k≠s:=by have:=h.le C;have:=hd.lt C;omega
   have hread:cc idP (vN c p s w) k x=sh (bP c p) x.ins j:=by
    unfold cc sh idP
    apply List.ext_getElem?
    intro i
    rw[List.getElem?_mapIdx,List.getElem?_mapIdx]
    cases hi:x.ins[i]? with
    |none=>rfl
    |some y =>
     simp only[Option.map_some]
     by_cases e:i=j
     ·subst e
      rw[hj] at hi;cases hi
      rw[if_pos rfl,e1]
     ·rw[if_neg e]
      congr 1
      refine DE C F.pat hw (y+1) y (Nat.lt_succ_self _) fun pre2 h2=>?_
      have ld:Ld c y k i:=⟨by rw[bp hx];exact hi,hd.kind⟩
      have e2:=one _ ((h2.step ld).way hr)
      have e3:=List.append_cancel_right (e2.trans el.symm)
      have e4:=List.append_inj_right' e3 rfl
      simp only[List.cons.injEq,Ln.mk.injEq,and_true,true_and] at e4
      exact e e4
   have hv:(vN c p s w).getD k 0=eC x.kind (sh (bP c p) x.ins j):=by
    rw[S.val k x hx]
    unfold sg
    rw[if_neg hks,jw hc,hread]
   have h1:=hl k j (by rw[<- el];simp)
   rw[dj hx,bp hx,<- hv] at h1
   have h2:(vN c p s w).getD k 0<=1:=by rw[hv];exact zE P hx hc (BW hb)
   have h3:=hb k
   omega
 obtain⟨e,h1,h2⟩:=Way.fin .here W
 rw[List.nil_append] at h1
 have h3:=key e l h1 [] (.stop h2)
 have h4:=hb e
 rw[hwd,Au]
 rcases h2 with h2|⟨d,hd,rfl⟩
 ·exact .inl ⟨e,h2,h4,by omega,by omega⟩
 ·exact .inr ⟨d,hd,by omega,by omega,by omega⟩
structure Flip (a b:List Nat) (j:Nat):Prop where
 at_:∃ v,v<=1/\a[j]?=some v/\b[j]?=some (1-v)
 ne:∀ i,i≠j->a[i]?=b[i]?
 bin:∀ v∈a,v<=1
theorem yf {low high:Nat} (h:low≠high):∀ {a:List Nat},(∀ v∈a,v=high)->eo low high a high=high
 |[],_=>rfl
 |v::r,hv=>by
  have e:=hv v (.head _)
  subst e
  rw[eo,if_neg (fun q=>h q.symm),if_pos rfl]
  exact yf h fun w m=>hv w (.tail _ m)
theorem xI {low high:Nat}:∀ {a:List Nat}{o:Nat},low∈a->eo low high a o=low
 |v::r,o,h=>by
  rw[eo]
  split
  ·rfl
  ·rename_i q
   rcases List.mem_cons.1 h with e|e
   ·exact absurd e.symm q
   ·exact xI e
theorem pW {low high v:Nat}{a:List Nat}{j:Nat} (hlh:low≠high) (hj:a[j]?=some v) (hv:v=low\/v=high) (ho:∀ i w,i≠j->a[i]?=some w->w=high):eo low high a high=v:=by
 rcases hv with rfl|rfl
 ·exact xI (List.mem_of_getElem? hj)
 ·refine yf hlh fun w m=>?_
  obtain⟨i,hi⟩:=List.mem_iff_getElem?.1 m
  by_cases e:i=j
  ·subst e
   rw[hj] at hi;cases hi;rfl
  ·exact ho i w e hi
theorem CZ:∀ {r:List Nat}{o q:Nat},(∀ v∈r,v<=1)->o<=1->q<=1->o≠q->fW r o≠fW r q
 |[],_,_,_,_,_,h=>h
 |v::r,o,q,hv,ho,hq,h=>by
  have h1:=hv v (.head _)
  rw[fW,fW,if_pos h1,if_pos h1]
  have e1:v=0\/v=1:=by omega
  have e2:o=0\/o=1:=by omega
  have e3:q=0\/q=1:=by omega
  refine CZ (fun w m=>hv w (.tail _ m)) ?_ ?_ ?_
  ·rcases e1 with rfl|rfl <;> rcases e2 with rfl|rfl <;> decide
  ·rcases e1 with rfl|rfl <;> rcases e3 with rfl|rfl <;> decide
  ·rcases e1 with rfl|rfl <;> rcases e2 with rfl|rfl <;> rcases e3 with rfl|rfl <;> first|exact absurd rfl h|decide
theorem qQ:∀ {a b:List Nat}{j o:Nat},Flip a b j->o<=1->fW b o≠fW a o
 |[],_,j,_,f,_=>by
  obtain⟨v,_,h,_⟩:=f.at_
  cases h
 |x::r,[],j,_,f,_=>by
  obtain⟨v,_,_,h⟩:=f.at_
  cases h
 |x::r,y::q,0,o,f,ho=>by
  obtain⟨v,hv,h1,h2⟩:=f.at_
  cases h1
  cases h2
  have e:r=q:=by
   apply List.ext_getElem?
   intro i
   exact f.ne (i+1) (by omega)
  subst e
  rw[fW,fW,if_pos hv,if_pos (by omega)]
  have e1:x=0\/x=1:=by omega
  have e2:o=0\/o=1:=by omega
  refine CZ (fun w m=>f.bin w (.tail _ m)) ?_ ?_ ?_
  ·rcases e1 with rfl|rfl <;> rcases e2 with rfl|rfl <;> decide
  ·rcases e1 with rfl|rfl <;> rcases e2 with rfl|rfl <;> decide
  ·rcases e1 with rfl|rfl <;> rcases e2 with rfl|rfl <;> decide
 |x::r,y::q,j+1,o,f,ho=>by
  have e:x=y:=Option.some.inj (f.ne 0 (by omega))
  subst e
  have hx:=f.bin x (.head _)
  rw[fW,fW,if_pos hx,if_pos hx]
  have e1:x=0\/x=1:=by omega
  have e2:o=0\/o=1:=by omega
  refine qQ (j:=j) ⟨f.at_,fun i hi=>f.ne (i+1) (by omega),fun w m=>f.bin w (.tail _ m)⟩ ?_
  rcases e1 with rfl|rfl <;> rcases e2 with rfl|rfl <;> decide
theorem pP {a b:Nat} (ha:a<=1) (hb:b<=1) (h:a≠b):eY a≠eY b:=by
 unfold eY
 rw[if_pos ha,if_pos hb];omega
theorem xk:∀ {l:List Nat}{o:Nat},(∀ v∈l,v<=1)->o<=1->fW l o<=1
 |[],_,_,ho=>ho
 |v::r,o,hv,ho=>by
  have h1:=hv v (.head _)
  rw[fW,if_pos h1]
  refine xk (fun w m=>hv w (.tail _ m)) ?_
  have q1:o=0\/o=1:=by omega
  have q2:v=0\/v=1:=by omega
  rcases q1 with rfl|rfl <;> rcases q2 with rfl|rfl <;> decide
def pa (k:Nat) (a:List Nat) (j:Nat):Prop :=
 k=3\/k=4\/((k=5\/k=6)/\∀ i w,i≠j->a[i]?=some w->w=1)\/((k=7\/k=8)/\∀ i w,i≠j->a[i]?=some w->w=0)\/k=9\/k=10 \/
 k=11/\(j=0->a.getD 1 0≠a.getD 2 0)/\(0<j->a.getD 0 0=j-1)
theorem zi {k j:Nat}{a b:List Nat} (h:pa k a j) (ha:Arity k a.length) (f:Flip a b j):lM k b≠lM k a:=by
 obtain⟨v,hv,h1,h2⟩:=f.at_
 have hj:=ak h1
 have gd:∀ {l:List Nat} {i w:Nat},l[i]?=some w->l.getD i 0=w:=fun e=>by rw[List.getD,e];rfl
 have gne:∀ i,i≠j->b.getD i 0=a.getD i 0:=fun i hi=>by rw[List.getD,List.getD,f.ne i hi]
 have obb:∀ {w:Nat},(∀ i u,i≠j->a[i]?=some u->u=w)->∀ i u,i≠j->b[i]?=some u->u=w:=fun q i u hi hb=>q i u hi ((f.ne i hi).trans hb)
 have v01:v=0\/v=1:=by omega
 rcases h with rfl|rfl|⟨hk,ho⟩|⟨hk,ho⟩|rfl|rfl|⟨rfl,m1,m2⟩
 ·have:=sM ha
  obtain rfl:j=0:=by omega
  show min (b.getD 0 0) 2≠min (a.getD 0 0) 2
  rw[gd h1,gd h2];omega
 ·have:=tA ha
  obtain rfl:j=0:=by omega
  show eY (b.getD 0 0)≠eY (a.getD 0 0)
  rw[gd h1,gd h2]
  exact pP (by omega) hv (by omega)
 ·have e1:eo 0 1 a 1=v:=pW (by decide) h1 v01 ho
  have e2:eo 0 1 b 1=1-v:=pW (by decide) h2 (by omega) (obb ho)
  rcases hk with rfl|rfl
  ·show eo 0 1 b 1≠eo 0 1 a 1
   rw[e1,e2];omega
  ·show eY (eo 0 1 b 1)≠eY (eo 0 1 a 1)
   rw[e1,e2]
   exact pP (by omega) hv (by omega)
 ·have e1:eo 1 0 a 0=v:=pW (by decide) h1 (by omega) ho
  have e2:eo 1 0 b 0=1-v:=pW (by decide) h2 (by omega) (obb ho)
  rcases hk with rfl|rfl
  ·show eo 1 0 b 0≠eo 1 0 a 0
   rw[e1,e2];omega
  ·show eY (eo 1 0 b 0)≠eY (eo 1 0 a 0)
   rw[e1,e2]
   exact pP (by omega) hv (by omega)
 ·exact qQ f (by decide)
 ·show eY (fW b 0)≠eY (fW a 0)
  have hb:∀ w∈b,w<=1:=by
   intro w m
   obtain⟨i,hi⟩:=List.mem_iff_getElem?.1 m
   by_cases e:i=j
   ·subst e
    rw[h2] at hi;cases hi;omega
   ·rw[<- f.ne i e] at hi
    exact f.bin w (List.mem_of_getElem? hi)
  exact pP (xk hb (by decide)) (xk f.bin (by decide)) (qQ f (by decide))
 ·have hle:∀ i,a.getD i 0<=1:=by
   intro i
   by_cases q:i<a.length
   ·exact f.bin _ (fD q)
   ·rw[List.getD,List.getElem?_eq_none (by omega)];exact Nat.zero_le _
  have g0:=hle 0
  have g1:=hle 1
  have g2:=hle 2
  have al:a.length=3:=by
   obtain⟨q1,q2⟩:=ha
   have e1:loN 11=3:=by decide
   have e2:hiZ 11=3:=by decide
   rw[e1] at q1
   rw[e2] at q2
   simp only[Int.ofNat_eq_natCast] at q2
   omega
  show se (b.getD 0 0) (b.getD 1 0) (b.getD 2 0)≠se (a.getD 0 0) (a.getD 1 0) (a.getD 2 0)
  have j3:j=0\/j=1\/j=2:=by omega
  rcases j3 with rfl|rfl|rfl
  ·have:=m1 rfl
   rw[gd h1] at g0 ⊢
   rw[gd h2,gne 1 (by decide),gne 2 (by decide)]
   unfold se
   rcases v01 with rfl|rfl
   ·rw[if_neg (by decide),if_pos (by decide),if_pos rfl];omega
   ·rw[if_pos (by decide),if_neg (by decide),if_pos rfl];omega
  ·have e0:=m2 (by decide)
   rw[gne 0 (by decide),gne 2 (by decide),e0,gd h1,gd h2]
   unfold se
   rw[if_pos (by decide),if_pos (by decide)];omega
  ·have e0:=m2 (by decide)
   rw[gne 0 (by decide),gne 1 (by decide),e0,gd h1,gd h2]
   unfold se
   rw[if_neg (by decide),if_pos (by decide),if_neg (by decide),if_pos (by decide)];omega
theorem yB {t ins:List Nat}{k j y:Nat}{x:Node} (hi:x.ins=ins) (hj:ins[j]?=some y) (hb:∀ i,t.getD i 0<=1):Flip (cc idP t k x) (sh t ins j) j:=by
 subst hi
 refine⟨⟨t.getD y 0,hb y,ju hj,?_⟩,fun i hne=>?_,fun v m=>?_⟩
 ·unfold sh
  rw[List.getElem?_mapIdx,hj]
  simp
 ·unfold cc sh idP
  rw[List.getElem?_mapIdx,List.getElem?_mapIdx]
  simp only[if_neg hne]
 ·unfold cc idP at m
  rw[List.mem_mapIdx] at m
  obtain⟨a,_,rfl⟩:=m
  exact hb _
theorem vv {c:Circ} (P:Plz c) {p:Pat} (F:Full c p) {k j y:Nat}{x:Node} (hx:c.nodes[k]?=some x) (hc:combB x.kind=true) (hj:x.ins[j]?=some y) (h:pa x.kind (cc idP (bP c p) k x) j) :
  eC (kd c k) (sh (bP c p) (insOf c k) j)≠(bP c p).getD k 0:=by
 have C:=P.cir
 have V:=nc C F.pat
 have hk:=P.kinds k x hx
 have hc':=of_decide_eq_true hc
 have eg:∀ l,eC x.kind l=lM x.kind l:=fun l=>by unfold eC;rw[if_neg (by omega),if_neg (by omega)]
 rw[dj hx,bp hx,V.val k x hx]
 unfold idN
 rw[jw hc,eg,eg]
 exact zi h (by rw[hZ];exact (C.good.node k x hx).arity) (yB rfl hj (Bu P F))
theorem na {α:Type}{l:List α}{i:Nat}{x:α} (h:l[i]?=some x):l.take (i+1)=l.take i++[x]:=by
 obtain⟨h1,rfl⟩:=List.getElem?_eq_some_iff.1 h
 exact List.take_succ_eq_append_getElem h1
def uR (c:Circ) (i:Nat):List LnZ:=(List.range ((insOf c i).length+1)).map fun j=>⟨i,Int.ofNat j-Int.ofNat 1⟩
def gQ (c:Circ) (i:Nat):List LnZ:=(List.range i).flatMap (uR c)
def nN (c:Circ):List LnZ:=gQ c c.nodes.length
theorem nh (c:Circ) (i:Nat):gQ c (i+1)=gQ c i++uR c i:=by
 unfold gQ
 rw[List.range_succ,List.flatMap_append]
 simp
theorem kR {c:Circ} (C:Cir c):∀ i,i<=c.nodes.length->(gQ c i).length<=i*17
 |0,_=>by unfold gQ;simp
 |i+1,h=>by
  have:=kR C i (by omega)
  obtain⟨x,hx⟩:=aw (show i<c.nodes.length from h)
  have:=(C.good.node i x hx).few
  rw[nh,List.length_append]
  unfold uR
  rw[List.length_map,List.length_range,bp hx]
  omega
theorem mV {c:Circ} (C:Cir c) {K:List LnZ×Nat->Prop} (h:K (nN c,0)):bw c K:=by
 have hlen:=C.len
 unfold bw
 refine vB C ⟨(fun q=>absurd rfl (dV.1 q)),fun _=>?_⟩
 refine aD (fun s=>s.2<=c.nodes.length/\s.1=gQ c s.2) (fun s=>c.nodes.length-s.2) (fun l=>l=nN c) ?_ ⟨Nat.zero_le _,rfl⟩ (fun _ e=>e ▸ h)
 rintro k ⟨l,i⟩ nx ⟨hi,hl⟩ hnx hk
 dsimp only at hi hl
 refine⟨fun q=>?_,fun q=>hk _ ?_⟩
 ·have q:i<c.nodes.length:=aQ.1 q
  obtain⟨x,hx⟩:=aw q
  have hfew:=(C.good.node i x hx).few
  have hll:=kR C i hi
  refine eU (fun r=>r=gQ c (i+1)) (fun k2 hk2=>⟨x,hx,by omega,?_⟩) ?_
  ·refine bl (fun s=>s.2<=x.ins.length+1/\s.1=gQ c i++(uR c i).take s.2) (fun s=>x.ins.length+1-s.2) ?_ ⟨Nat.zero_le _,by simp[hl]⟩
   rintro⟨l,j⟩ nx ⟨hj,hl⟩ hnx
   dsimp only at hj hl
   refine⟨fun q=>?_,fun q=>hk2 _ ?_⟩
   ·have q:j<x.ins.length+1:=aQ.1 q
    have hg:(uR c i)[j]?=some ⟨i,Int.ofNat j-Int.ofNat 1⟩:=by
     unfold uR
     rw[List.getElem?_map,bp hx,List.getElem?_range q]
     rfl
    have hb:((uR c i).take j).length<=17:=by
     rw[List.length_take];omega
    refine⟨by simp only[Int.ofNat_eq_natCast];omega,by simp only[Int.ofNat_eq_natCast];omega,?_,by omega,hnx _ ⟨q,?_⟩ (by dsimp only;omega)⟩
    ·rw[hl,List.length_append,List.length_singleton];omega
    ·dsimp only
     rw[hl,List.append_assoc,na hg]
   ·have q:x.ins.length+1<=j:=bk.1 q
    rw[hl,nh,List.take_of_length_le]
    unfold uR
    rw[List.length_map,List.length_range,bp hx]
    exact q
  ·rintro _ rfl
   exact⟨by omega,hnx _ ⟨q,rfl⟩ (by dsimp only;omega)⟩
 ·have q:c.nodes.length<=i:=bk.1 q
  have e:i=c.nodes.length:=by omega
  subst e
  exact hl
theorem gJ {α:Type}{l:List α}{a b:α}:a∈l++[b]↔a∈l\/a=b:=by rw[List.mem_append,List.mem_singleton]
theorem Bm {κ ν:Type} [DecidableEq κ] (m:List (κ×ν)) (k k':κ) (v:ν):gY (kM m k v) k'=if k'=k then some v else gY m k':=by
 induction m with
 |nil=>unfold kM gY gY;rfl
 |cons a m ih =>
  unfold kM
  by_cases e:k=a.1
  ·rw[if_pos e]
   unfold gY
   by_cases e2:k'=k
   ·rw[if_pos e2,if_pos e2]
   ·rw[if_neg e2,if_neg e2,if_neg (fun q=>e2 (q.trans e.symm))]
  ·rw[if_neg e]
   unfold gY
   by_cases e2:k'=a.1
   ·rw[if_pos e2,if_pos e2,if_neg (fun q=>e (q.symm.trans e2))]
   ·rw[if_neg e2,if_neg e2,ih]
theorem xd:(([⟨#[97]⟩,⟨#[98]⟩,⟨#[121]⟩]:List ByteArray).all fun s=>isTrue (jY Tryz.prog [] (kT Tryz.prog) 60 140 #[.string s] (bQ vars)))=true:=by kernel_rfl
theorem Bp {s:ByteArray} (h:s∈([⟨#[97]⟩,⟨#[98]⟩,⟨#[121]⟩]:List ByteArray)):Cc s:=by
 obtain⟨h',e⟩:=rN (List.all_eq_true.1 xd s h)
 have c:=(gM hM hP (fun f vs h v e=>fq f vs h v e) 60 _ _ _ _ _ e).1
 exact⟨PureV.rb rfl,fun h b=>c.lift (by kernel_rfl) rfl (mF (yr b) (pY b))⟩
theorem Ad {ds:List Bool}{a b:Nat} (ha:a<ds.length):(ds.set a true).getD b false=true↔b=a\/ds.getD b false=true:=by
 rw[List.getD,List.getElem?_set]
 by_cases e:a=b
 ·subst e;rw[if_pos rfl,if_pos ha];simp
 ·rw[if_neg e]
  exact⟨.inr,fun q=>q.elim (fun e2=>absurd e2.symm e) id⟩
def uN (k:Nat):Nat×Bool:=if k=5\/k=6 then (0,true) else if k=7\/k=8 then (1,true) else (2,false)
theorem qX {k:Nat}{K:Nat×Bool->Prop} (h:K (uN k)):bO k K:=by
 unfold bO
 refine cg (a:=decide (k=5\/k=6)) (fun G=>⟨fun q=>?_,fun q=>?_⟩) ⟨fun q=>?_,fun q=>?_⟩
 ·have e:=bD.1 q
  rw[q]
  rw[decide_eq_true (.inl e)] at G;exact G
 ·have e:eqN k 6=decide (k=5\/k=6):=by
   rw[iB]
   have:=bW.1 q
   simp[this]
  rw[e];exact G
 ·have q:=of_decide_eq_true q
  unfold uN at h
  rw[if_pos q] at h;exact h
 ·have q:=of_decide_eq_false q
  unfold uN at h
  rw[if_neg q] at h
  refine cg (a:=decide (k=7\/k=8)) (fun G=>⟨fun q=>?_,fun q=>?_⟩) ⟨fun q=>?_,fun q=>?_⟩
  ·have e:=bD.1 q
   rw[q]
   rw[decide_eq_true (.inl e)] at G;exact G
  ·have e:eqN k 8=decide (k=7\/k=8):=by
    rw[iB]
    have:=bW.1 q
    simp[this]
   rw[e];exact G
  ·have q:=of_decide_eq_true q
   rw[if_pos q] at h;exact h
  ·have q:=of_decide_eq_false q
   rw[if_neg q] at h;exact h
theorem kB {c:Circ} (C:Cir c) {K:List Bool->Prop} (h:∀ es:List Bool,es.length=c.nodes.length->(∀ m,es.getD m false=true↔ObsN c m)->K es):bm c K:=by
 have hlen:=C.len
 have hol:=C.good.outsLen
 unfold bm
 refine⟨by omega,by omega,?_⟩
 refine aD (fun s=>s.2<=c.outs.length/\s.1.length=c.nodes.length/\∀ m,s.1.getD m false=true↔m∈c.outs.take s.2) (fun s=>c.outs.length-s.2) (fun es=>es.length=c.nodes.length/\∀ m,es.getD m false=true↔m∈c.outs) ?_ ⟨Nat.zero_le _,by simp,fun m=>?_⟩ ?_
 ·rintro k ⟨es,i⟩ nx ⟨hi,hl,hm⟩ hnx hk
  dsimp only at hi hl hm
  refine⟨fun q=>?_,fun q=>hk _ ⟨hl,fun m=>?_⟩⟩
  ·have q:i<c.outs.length:=aQ.1 q
   obtain⟨o,ho⟩:=aw q
   have hon:=C.good.outs o (List.mem_of_getElem? ho)
   obtain⟨v,hv⟩:=aw (show o<es.length by omega)
   refine⟨o,ho,hon,v,hv,by omega,hnx _ ⟨q,(List.length_set ..).trans hl,fun m=>?_⟩ (by dsimp only;omega)⟩
   dsimp only
   rw[Ad (by omega),hm,na ho,gJ]
   exact or_comm
  ·have q:c.outs.length<=i:=bk.1 q
   rw[hm,List.take_of_length_le q]
 ·simp only[List.take_zero,List.not_mem_nil,iff_false]
  rw[List.getD,List.getElem?_replicate]
  split <;> simp
 ·rintro es ⟨hl,hm⟩
  have hsl:=gq c [14]
  refine eU (fun es=>es.length=c.nodes.length/\∀ m,es.getD m false=true↔ObsN c m) (fun k hk=>jd (by omega) ?_) fun es q=>⟨q.1.symm,h es q.1 q.2⟩
  refine bl (fun s=>s.2<=(ofN c [14]).length/\s.1.length=c.nodes.length/\∀ m,s.1.getD m false=true↔m∈c.outs\/∃ d∈(ofN c [14]).take s.2,dOf c d=m) (fun s=>(ofN c [14]).length-s.2) ?_ ⟨Nat.zero_le _,hl,fun m=>(hm m).trans (by simp)⟩
  rintro⟨es,i⟩ nx ⟨hi,hl,hm⟩ hnx
  dsimp only at hi hl hm
  refine⟨fun q=>?_,fun q=>hk _ ⟨hl,fun m=>?_⟩⟩
  ·have q:i<(ofN c [14]).length:=aQ.1 q
   obtain⟨d,hd⟩:=aw q
   obtain⟨x,hx,_,hdp,_⟩:=yn C (List.mem_of_getElem? hd)
   rw[bp hx] at hdp
   have hon:=(C.good.node d x hx).ins _ (List.mem_of_getElem? hdp)
   obtain⟨v,hv⟩:=aw (show dOf c d<es.length by omega)
   refine⟨d,hd,x,hx,_,hdp,hon,v,hv,by omega,hnx _ ⟨q,(List.length_set ..).trans hl,fun m=>?_⟩ (by dsimp only;omega)⟩
   dsimp only
   rw[Ad (by omega),hm,na hd]
   constructor
   ·rintro (rfl|q2|⟨d2,h2,h3⟩)
    ·exact .inr ⟨d,gJ.2 (.inr rfl),rfl⟩
    ·exact .inl q2
    ·exact .inr ⟨d2,gJ.2 (.inl h2),h3⟩
   ·rintro (q2|⟨d2,h2,h3⟩)
    ·exact .inr (.inl q2)
    ·rcases gJ.1 h2 with h2|rfl
     ·exact .inr (.inr ⟨d2,h2,h3⟩)
     ·exact .inl h3.symm
  ·have q:(ofN c [14]).length<=i:=bk.1 q
   rw[hm,List.take_of_length_le q]
   rfl
theorem zq {c:Circ} (C:Cir c) {a b:List Nat} (ha:a.length=c.nodes.length) (hb:b.length=c.nodes.length) {K:List Bool->Prop} (h:∀ es:List Bool,es.length=c.nodes.length->K es):dg c a b K:=by
 have hlen:=C.len
 unfold dg
 refine⟨by omega,by omega,kc C.good fun o ho=>?_⟩
 have hol:o.length=c.nodes.length:=by have:=ho.perm.length_eq;simpa using this
 dsimp only
 refine aD (fun s=>s.2<=o.length/\s.1.length=c.nodes.length) (fun s=>o.length-s.2) (fun es=>es.length=c.nodes.length) ?_ ⟨Nat.zero_le _,by simp⟩ fun es q=>⟨q.symm,h es q⟩
 rintro k ⟨es,i⟩ nx ⟨hi,hl⟩ hnx hk
 dsimp only at hi hl
 refine⟨fun q=>?_,fun _=>hk _ hl⟩
 have q:i<o.length:=aQ.1 q
 obtain⟨m,hm⟩:=aw q
 have hmn:m<c.nodes.length:=List.mem_range.1 (ho.perm.mem_iff.1 (List.mem_of_getElem? hm))
 obtain⟨x,hx⟩:=aw hmn
 obtain⟨va,hva⟩:=aw (l:=a) (i:=m) (by omega)
 obtain⟨vb,hvb⟩:=aw (l:=b) (i:=m) (by omega)
 obtain⟨ve,hve⟩:=aw (l:=es) (i:=m) (by omega)
 have few:=(C.good.node m x hx).few
 refine eU (fun es=>es.length=c.nodes.length) (fun k2 hk2=>⟨m,hm,x,hx,?_⟩) fun es hs=>⟨by dsimp only;omega,hnx _ ⟨q,hs⟩ (by dsimp only;omega)⟩
 have hset:∀ v,k2 (es.set m v):=fun v=>hk2 _ ((List.length_set ..).trans hl)
 have src:∃ x15,a[m]?=some x15/\aP x15 (fun r16=>(r16=true->∃ x17,a[m]?=some x17/\∃ x18,b[m]?=some x18/\m<c.nodes.length/\∃ x19,es[m]?=some x19/\k2 (es.set m (eqN x17 x18)))/\(r16=false->m<c.nodes.length/\∃ x20,es[m]?=some x20/\k2 (es.set m false))) :=
  ⟨va,hva,ij ⟨fun _=>⟨va,hva,vb,hvb,hmn,ve,hve,hset _⟩,fun _=>⟨hmn,ve,hve,hset _⟩⟩⟩
 refine⟨fun _=>src,fun _=>⟨fun _=>src,fun _=>qX ?_⟩⟩
 refine eU (fun _=>True) (fun k3 hk3=>?_) fun s _=>⟨fun _=>⟨vb,hvb,ij ⟨hmn,ve,hve,hset _⟩⟩,fun _=>⟨fun _=>⟨vb,hvb,ij ⟨hmn,ve,hve,hset _⟩⟩,fun _=>⟨hmn,ve,hve,hset _⟩⟩⟩
 refine bl (fun s=>s.2.2<=x.ins.length) (fun s=>x.ins.length-s.2.2) ?_ (Nat.zero_le _)
 rintro⟨al,fo,j⟩ nx2 hj hnx2
 dsimp only at hj
 refine⟨fun q2=>?_,fun _=>hk3 _ trivial⟩
 have q2:j<x.ins.length:=aQ.1 q2
 obtain⟨y,hy⟩:=aw q2
 have hyn:=(C.good.node m x hx).ins y (List.mem_of_getElem? hy)
 obtain⟨ye,hye⟩:=aw (l:=es) (i:=y) (by omega)
 obtain⟨yb,hyb⟩:=aw (l:=b) (i:=y) (by omega)
 refine eU (fun _=>True) (fun k4 hk4=>⟨y,hy,?_⟩) fun s _=>⟨by dsimp only;omega,hnx2 _ q2 (by dsimp only;omega)⟩
 refine eU (fun _=>True) (fun k5 hk5=>⟨fun _=>⟨hyn,ye,hye,hk5 _ trivial⟩,fun _=>hk5 _ trivial⟩) fun al2 _=>⟨fun _=>hk4 _ trivial,fun _=>⟨fun _=>⟨hyn,ye,hye,fun _=>⟨yb,hyb,hk4 _ trivial⟩,fun _=>hk4 _ trivial⟩,fun _=>hk4 _ trivial⟩⟩
theorem CQ {b:Bool} (h:(!b)=false):b=true:=by cases b <;> first|rfl|cases h
theorem Ax (v:Nat):(!(!ltN v 0))=false:=by
 have:ltN v 0=false:=bk.2 (Nat.zero_le _)
 rw[this];rfl
theorem xB {c:Circ} (C:Cir c) {l:LnZ}{j y:Nat}{x:Node}{t:List Nat}{firm:List Bool} (hx:c.nodes[l.node]?=some x) (hp:l.pin=Int.ofNat j) (hj:x.ins[j]?=some y) (ht:t.length=c.nodes.length) (hf:firm.length=c.nodes.length)
  {K:Nat->Prop} (h0:K 0) (h:pa x.kind (cc idP t l.node x) j->K 1/\K 2):eE c l t firm K:=by
 have hlen:=C.len
 have few:=(C.good.node _ x hx).few
 have hjl:=ak hj
 have hyn:=(C.good.node _ x hx).ins y (List.mem_of_getElem? hj)
 have tg:∀ {z:Nat},z<c.nodes.length->t[z]?=some (t.getD z 0):=fun hz=>getD_some (by omega)
 have fg:∀ {z:Nat},z<c.nodes.length->∃ v,firm[z]?=some v:=fun hz=>aw (by omega)
 obtain⟨rs,hrs⟩:∃ rs,x.ins.eraseIdx j=rs:=⟨_,rfl⟩
 have hmem:∀ z,z∈rs ↔ ∃ i,i≠j/\x.ins[i]?=some z:=fun z=>by rw[<- hrs];exact List.mem_eraseIdx_iff_getElem?
 have hrl:rs.length<=16:=by
  rw[<- hrs,List.length_eraseIdx]
  split <;> omega
 have hin:∀ {z:Nat},z∈rs->z<c.nodes.length:=fun m=>by
  obtain⟨i,_,hi⟩:=(hmem _).1 m
  exact (C.good.node _ x hx).ins _ (List.mem_of_getElem? hi)
 have rget:∀ {i w:Nat},(cc idP t l.node x)[i]?=some w->∃ z,x.ins[i]?=some z/\t.getD z 0=w:=by
  intro i w q
  unfold cc idP at q
  rw[List.getElem?_mapIdx] at q
  obtain⟨z,h1,h2⟩:=Option.map_eq_some_iff.1 q
  exact⟨z,h1,h2⟩
 have rall:∀ w,(∀ z∈rs,t.getD z 0=w)->∀ i u,i≠j->(cc idP t l.node x)[i]?=some u->u=w:=by
  intro w q i u hi hu
  obtain⟨z,h1,h2⟩:=rget hu
  rw[<- h2]
  exact q z ((hmem z).2 ⟨i,hi,h1⟩)
 have rD:∀ {i z:Nat},x.ins[i]?=some z->(cc idP t l.node x).getD i 0=t.getD z 0:=fun q=>by rw[List.getD,ju q];rfl
 have h11:x.kind=11->x.ins.length=3:=by
  intro e
  obtain⟨q1,q2⟩:=(C.good.node _ x hx).arity
  rw[e] at q1 q2
  have e1:loN 11=3:=by decide
  have e2:hiZ 11=3:=by decide
  rw[e1] at q1
  rw[e2] at q2
  simp only[Int.ofNat_eq_natCast] at q2
  omega
 unfold eE iT
 refine⟨x,hx,Nat.le_trans (C.good.node _ x hx).few (by decide),j,hp,hjl,?_⟩
 rw[hrs]
 refine aD (fun i=>i<=rs.length) (fun i=>rs.length-i) (fun _=>True) ?_ (Nat.zero_le _) ?_
 rintro k6 v7 nx hv hnx hk
 refine⟨fun q=>?_,fun _=>hk _ trivial⟩
 have q:v7<rs.length:=aQ.1 q
 obtain⟨z,hz⟩:=aw q
 obtain⟨fz,hfz⟩:=fg (hin (List.mem_of_getElem? hz))
 refine⟨z,hz,fz,hfz,fun _=>?_,fun _=>⟨by omega,hnx _ q (by omega)⟩⟩
 rotate_left
 intro _ _
 all_goals
  refine⟨x,hx,x,hx,j,hp,y,hj,_,tg hyn,?_⟩
  refine eU (fun s=>s.2=true->pa x.kind (cc idP t l.node x) j) (fun k18 hk18=>?_) fun s hs=>⟨fun _=>h0,fun e=>⟨fun _=>(h (hs (CQ e))).2,fun _=>(h (hs (CQ e))).1⟩⟩
  refine eU (fun b:Bool=>b=true->pa x.kind (cc idP t l.node x) j) (fun k20 hk20=>?_) ?_
  ·refine cg (a:=decide (x.kind=3\/x.kind=4)) (fun G=>⟨fun q=>?_,fun q=>?_⟩) ⟨fun q=>hk18 _ fun _=>?_,fun q=>?_⟩
   ·rw[q]
    rw[decide_eq_true (.inl (bD.1 q))] at G;exact G
   ·have e:eqN x.kind 4=decide (x.kind=3\/x.kind=4):=by
     rw[iB]
     have:=bW.1 q
     simp[this]
    rw[e];exact G
   ·have q:=of_decide_eq_true q
    exact q.elim .inl fun e=>.inr (.inl e)
   ·clear q
    refine cg (a:=decide (5<=x.kind/\x.kind<=8)) (fun G=>⟨fun q=>?_,fun q=>⟨fun q2=>?_,fun q2=>⟨fun q3=>?_,fun q3=>?_⟩⟩⟩) ⟨fun q=>qX ?_,fun q=>?_⟩
    ·have e:=bD.1 q
     rw[q]
     rw[decide_eq_true (by omega)] at G;exact G
    ·have e:=bD.1 q2
     rw[q2]
     rw[decide_eq_true (by omega)] at G;exact G
    ·have e:=bD.1 q3
     rw[q3]
     rw[decide_eq_true (by omega)] at G;exact G
    ·have e1:=bW.1 q
     have e2:=bW.1 q2
     have e3:=bW.1 q3
     have e:eqN x.kind 8=decide (5<=x.kind/\x.kind<=8):=by
      rw[iB,Bool.eq_iff_iff,decide_eq_true_eq,decide_eq_true_eq]
      omega
     rw[e];exact G
    ·have q:=of_decide_eq_true q
     refine aD (fun i=>i<=rs.length/\∀ z∈rs.take i,t.getD z 0=eY (uN x.kind).1) (fun i=>rs.length-i) (fun _=>∀ z∈rs,t.getD z 0=eY (uN x.kind).1) ?_ ⟨Nat.zero_le _,fun z m=>by cases m⟩ fun _ hall=>?_
     ·rintro k30 i nx3 ⟨hi,hI⟩ hnx3 hk30
      refine⟨fun q3=>?_,fun q3=>hk30 _ ?_⟩
      ·have q3:i<rs.length:=aQ.1 q3
       obtain⟨z3,hz3⟩:=aw q3
       refine⟨z3,hz3,_,tg (hin (List.mem_of_getElem? hz3)),mE ⟨fun q4=>⟨fun _=>hk18 _ fun e=>?_,fun _=>hk18 _ fun e=>?_⟩,fun q4=>⟨by omega,hnx3 _ ⟨q3,fun z m=>?_⟩ (by omega)⟩⟩⟩
       ·rw[Ax] at e;cases e
       ·rw[Ax] at e;cases e
       ·rw[na hz3,gJ] at m
        rcases m with m|rfl
        ·exact hI z m
        ·exact bD.1 (CQ q4)
      ·have q3:rs.length<=i:=bk.1 q3
       rw[List.take_of_length_le q3] at hI
       exact hI
     ·have op:pa x.kind (cc idP t l.node x) j:=by
       by_cases e:x.kind=5\/x.kind=6
       ·have e2:uN x.kind=(0,true):=if_pos e
        rw[e2] at hall
        exact .inr (.inr (.inl ⟨e,rall _ hall⟩))
       ·have e7:x.kind=7\/x.kind=8:=by omega
        have e2:uN x.kind=(1,true):=by unfold uN;rw[if_neg e,if_pos e7]
        rw[e2] at hall
        exact .inr (.inr (.inr (.inl ⟨e7,rall _ hall⟩)))
      exact⟨fun _=>hk18 _ fun _=>op,fun _=>hk18 _ fun _=>op⟩
    ·clear q
     refine⟨fun q=>?_,fun q=>?_⟩
     ·have e11:x.kind=11:=bD.1 q
      have hl3:=h11 e11
      refine⟨fun q2=>?_,fun q2=>?_⟩
      ·have q2:(0:Int)<l.pin:=qm.1 q2
       rw[hp] at q2
       have j0:0<j:=by simp only[Int.ofNat_eq_natCast] at q2;omega
       obtain⟨z0,hz0⟩:=aw (l:=x.ins) (i:=0) (by omega)
       have hr0:rs[0]?=some z0:=by rw[<- hrs,List.getElem?_eraseIdx_of_lt j0];exact hz0
       have hzn:=hin (List.mem_of_getElem? hr0)
       obtain⟨fz0,hfz0⟩:=fg hzn
       refine⟨z0,hr0,_,tg hzn,j-1,by rw[hp];simp only[Int.ofNat_eq_natCast];omega,by omega,z0,hr0,fz0,hfz0,hk18 _ fun e=>?_⟩
       have e:=bD.1 e
       refine .inr (.inr (.inr (.inr (.inr (.inr ⟨e11,fun e0=>by omega,fun _=>?_⟩)))))
       rw[rD hz0]
       omega
      ·have q2:l.pin<=(0:Int):=sD.1 q2
       rw[hp] at q2
       have j0:j=0:=by simp only[Int.ofNat_eq_natCast] at q2;omega
       obtain⟨z1,hz1⟩:=aw (l:=x.ins) (i:=1) (by omega)
       obtain⟨z2,hz2⟩:=aw (l:=x.ins) (i:=2) (by omega)
       have hr0:rs[0]?=some z1:=by rw[<- hrs,List.getElem?_eraseIdx_of_ge (by omega)];exact hz1
       have hr1:rs[1]?=some z2:=by rw[<- hrs,List.getElem?_eraseIdx_of_ge (by omega)];exact hz2
       refine⟨z1,hr0,_,tg (hin (List.mem_of_getElem? hr0)),z2,hr1,_,tg (hin (List.mem_of_getElem? hr1)),hk20 _ fun e=>?_⟩
       refine .inr (.inr (.inr (.inr (.inr (.inr ⟨e11,fun _=>?_,fun e0=>by omega⟩)))))
       rw[rD hz1,rD hz2]
       exact dV.1 e
     ·refine cg (a:=decide (x.kind=9\/x.kind=10)) (fun G=>⟨fun q2=>?_,fun q2=>?_⟩) ⟨fun q2=>hk20 _ fun _=>?_,fun q2=>hk18 _ fun e=>by cases e⟩
      ·rw[q2]
       rw[decide_eq_true (.inl (bD.1 q2))] at G;exact G
      ·have e:eqN x.kind 10=decide (x.kind=9\/x.kind=10):=by
        rw[iB]
        have:=bW.1 q2
        simp[this]
       rw[e];exact G
      ·have q2:=of_decide_eq_true q2
       exact .inr (.inr (.inr (.inr (q2.elim .inl fun e=>.inr (.inl e)))))
  ·intro b hb
   refine⟨fun eb=>?_,fun _=>hk18 _ fun e=>by cases e⟩
   refine aD (fun i=>i<=rs.length) (fun i=>rs.length-i) (fun _=>True) ?_ (Nat.zero_le _) fun _ _=>hk18 _ fun _=>hb eb
   rintro k49 i nx3 hi hnx3 hk49
   refine⟨fun q3=>?_,fun _=>hk49 _ trivial⟩
   have q3:i<rs.length:=aQ.1 q3
   obtain⟨z3,hz3⟩:=aw q3
   exact⟨z3,hz3,_,tg (hin (List.mem_of_getElem? hz3)),ij ⟨fun _=>hk18 _ fun e=>(by rw[Ax] at e;cases e),fun _=>⟨by omega,hnx3 _ q3 (by omega)⟩⟩⟩
theorem apB {P:Bool->Prop}{a b:Bool} (e:a=b) (h:P b):P a:=e ▸ h
def pthZ (s:Nat) (w:List Ln):List LnZ:=⟨s,Int.negSucc 0⟩::w.map Ln.toZ
theorem jm (s:Nat) (w:List Ln):(pthZ s w).length=w.length+1:=by unfold pthZ;simp
theorem xe {c:Circ}{s:Nat}{w:List Ln} (W:Way c s w):∀ (i k j:Nat),w[i]?=some ⟨k,j⟩->∃ z:LnZ,(pthZ s w)[i]?=some z/\Ld c z.node k j:=by
 induction W with
 |stop _=>intro i k j h;cases h
 |@step m k' j' l hd _ ih =>
  intro i k j h
  cases i with
  |zero=>cases h;exact⟨_,rfl,hd⟩
  |succ i =>
   obtain⟨z,h1,h2⟩:=ih i k j h
   cases i with
   |zero =>
    cases h1
    exact⟨_,rfl,h2⟩
   |succ i=>exact⟨z,h1,h2⟩
theorem AJ {c:Circ}{s:Nat}{w:List Ln} (W:Way c s w):∃ z:LnZ,(pthZ s w)[w.length]?=some z/\ObsN c z.node:=by
 induction W with
 |stop o=>exact⟨_,rfl,o⟩
 |@step m k j l hd _ ih =>
  obtain⟨z,h1,h2⟩:=ih
  cases l with
  |nil =>
   cases h1
   exact⟨_,rfl,h2⟩
  |cons a l=>exact⟨z,h1,h2⟩
theorem Way.len {c:Circ} (C:Cir c) {s:Nat}{w:List Ln} (W:Way c s w):s+w.length<c.nodes.length:=by
 induction W with
 |stop o=>have:=o.lt C;simpa using this
 |step hd _ ih=>have:=hd.lt C;rw[List.length_cons];omega
theorem za {s i:Nat}{w:List Ln}{z:LnZ} (h:(pthZ s w)[i+1]?=some z):∃ k j:Nat,w[i]?=some ⟨k,j⟩/\z=⟨k,Int.ofNat j⟩:=by
 have h:(w.map Ln.toZ)[i]?=some z:=h
 rw[List.getElem?_map] at h
 obtain⟨⟨k,j⟩,h1,h2⟩:=Option.map_eq_some_iff.1 h
 exact⟨k,j,h1,h2.symm⟩
def SrcN (c:Circ) (s:Nat):Prop:=kd c s=0\/kd c s=14
theorem yE {c:Circ} (C:Cir c) {s:Nat}{w:List Ln} (W:Way c s w) (hs:SrcN c s) {K:Bool->Prop} (h:K true):di c (pthZ s w) K:=by
 have hlen:=C.len
 have hw:=W.len C
 have hpl:=jm s w
 unfold di
 refine dQ (l:=pthZ s w) ?_ ?_ ?_
 ·intro k i nx z hz hi hn
  have node:∃ x,c.nodes[z.node]?=some x/\(i=0->z.pin=Int.negSucc 0/\(x.kind=0\/x.kind=14))/\(0<i->∃ (j m:Nat) (z':LnZ),z.pin=Int.ofNat j/\x.kind≠14/\x.ins[j]?=some m/\(pthZ s w)[i-1]?=some z'/\z'.node=m):=by
   cases i with
   |zero =>
    cases hz
    obtain⟨x,hx⟩:=aw (show s<c.nodes.length by omega)
    refine⟨x,hx,fun _=>⟨rfl,?_⟩,fun q=>absurd q (Nat.lt_irrefl _)⟩
    have:=hs
    unfold SrcN at this
    rw[dj hx] at this
    exact this
   |succ i =>
    obtain⟨k,j,h1,rfl⟩:=za hz
    obtain⟨z',h2,ld⟩:=xe W i k j h1
    obtain⟨x,hx,hj,_⟩:=ld.node C
    refine⟨x,hx,fun q=>by omega,fun _=>⟨j,_,z',rfl,?_,hj,h2,rfl⟩⟩
    have:=ld.kind
    rw[dj hx] at this
    exact this
  obtain⟨x,hx,n0,n1⟩:=node
  have hzn:=ak hx
  refine⟨fun _=>⟨z,hz,?_⟩,fun q=>by have:=bk.1 q;omega⟩
  refine cg (a:=false) (fun G=>⟨fun q=>absurd (aQ.1 q) (Nat.not_lt_zero _),fun _=>?_⟩) ⟨(fun q=>by cases q),fun _=>⟨x,hx,?_⟩⟩
  ·have:(!ltN z.node c.nodes.length)=false:=by rw[Bool.not_eq_false'];exact aQ.2 hzn
   rw[this];exact G
  refine cg (a:=false) (fun G=>⟨fun q=>⟨fun q2=>?_,fun _=>⟨fun _=>G,fun q3=>?_⟩⟩,fun _=>G⟩) ⟨(fun q=>by cases q),fun _=>?_⟩
  ·have:=(n0 (bD.1 q)).1
   rw[this,Ds] at q2
   simp at q2
  ·have:=(n0 (bD.1 q)).2
   have e:=this.resolve_left (bW.1 q3)
   have:eqN x.kind 14=true:=bD.2 e
   exact apB (a := !(eqN x.kind 14)) (b:=false) (by rw[this];rfl) G
  ·refine cg (a:=false) (fun G=>⟨fun q=>?_,fun _=>G⟩) ⟨(fun q=>by cases q),fun _=>⟨by omega,hn⟩⟩
   obtain⟨j,m,z',hp,h14,hj,hz',hm⟩:=n1 (aQ.1 q)
   refine⟨fun q2=>absurd (bD.1 q2) h14,fun _=>⟨fun q2=>?_,fun _=>⟨fun q2=>?_,fun _=>⟨j,hp,m,hj,aQ.1 q,by omega,z',hz',?_⟩⟩⟩⟩
   ·have:=qm.1 q2
    rw[hp] at this
    simp only[Int.ofNat_eq_natCast] at this;omega
   ·have hjl:=ak hj
    have:ltI z.pin (Int.ofNat x.ins.length)=true:=qm.2 (by rw[hp];simp only[Int.ofNat_eq_natCast];omega)
    rw[this] at q2
    cases q2
   ·rw[hm,show neN m m=false from pD.2 rfl];exact G
 ·intro k i nx hi hk
  refine⟨fun q=>?_,fun _=>hk⟩
  have:=aQ.1 q;omega
 ·obtain⟨z,hz,ho⟩:=AJ W
  refine⟨fun _=>kB C fun es hes hob=>⟨by omega,by omega,z,?_,true,?_,h⟩,fun q=>?_⟩
  ·rw[hpl,Nat.add_sub_cancel];exact hz
  ·have h1:=(hob z.node).2 ho
   obtain⟨v,hv⟩:=aw (l:=es) (i:=z.node) (by rw[hes];exact ho.lt C)
   rw[List.getD,hv] at h1
   rw[hv]
   exact congrArg some h1
  ·have:=bk.1 q;omega
theorem yv {c:Circ} (C:Cir c) {s:Nat}{w:List Ln} (W:Way c s w) (hs:SrcN c s) {K:Nat->Prop} (h:K 0):dO c (pthZ s w) K:=by
 have hlen:=C.len
 have hw:=W.len C
 have hpl:=jm s w
 unfold dO
 refine mV C ⟨(fun q=>absurd rfl (dV.1 q)),fun _=>⟨fun q=>?_,fun _=>yE C W hs ⟨(fun q=>by cases q),fun _=>h⟩⟩⟩
 have:=aQ.1 q;omega
theorem B4 {c:Circ} (C:Cir c) {p:PairT} (h1:PatOk c p.first) (h2:PatOk c p.second) {K:List Nat×List Nat×Nat->Prop} (h:K (bP c p.first,bP c p.second,0)):ep c p K:=by
 unfold ep
 exact nE C h1 ⟨(fun q=>absurd rfl (dV.1 q)),fun _=>nE C h2 ⟨(fun q=>absurd rfl (dV.1 q)),fun _=>h⟩⟩
def Al (c:Circ) (t:List Nat) (w:List Ln):Prop:=∀ k j x,(⟨k,j⟩:Ln)∈w->c.nodes[k]?=some x->pa x.kind (cc idP t k x) j
theorem Bt {c:Circ} (C:Cir c) {p:PairT} (h1:PatOk c p.first) (h2:PatOk c p.second) {s:Nat}{w:List Ln} (W:Way c s w) (hs:SrcN c s) {K:Nat×Nat->Prop}
  (h:∀ how,(how≠0->(bP c p.first).getD s 0<=1/\(bP c p.second).getD s 0=eY ((bP c p.first).getD s 0)/\Al c (bP c p.second) w)->K (how,0)):dP c (pthZ s w) p K:=by
 have hlen:=C.len
 have hw:=W.len C
 have la:=(nc C h1).len
 have lb:=(nc C h2).len
 unfold dP
 refine yv C W hs ⟨(fun q=>absurd rfl (dV.1 q)),fun _=>B4 C h1 h2 ⟨(fun q=>absurd rfl (dV.1 q)),fun _=>⟨_,rfl,?_⟩⟩⟩
 dsimp only
 have ga:=getD_some (l:=bP c p.first) (i:=s) (by omega)
 have gb:=getD_some (l:=bP c p.second) (i:=s) (by omega)
 refine eU (fun b=>b=false->(bP c p.first).getD s 0<=1/\(bP c p.second).getD s 0=eY ((bP c p.first).getD s 0)) (fun k hk=>⟨_,ga,ij ⟨fun _=>hk _ fun e=>(by cases e),fun q=>⟨_,gb,_,ga,mE (hk _ fun e=>⟨?_,pD.1 e⟩)⟩⟩⟩) fun b hb=>⟨fun _=>h 0 fun e=>absurd rfl e,fun eb=>zq C la lb fun firm hf=>?_⟩
 ·exact of_decide_eq_true (CQ q)
 ·obtain⟨a1,a2⟩:=hb eb
  have hd:(pthZ s w).drop 1=w.map Ln.toZ:=rfl
  rw[hd]
  refine eU (fun how=>how≠0->Al c (bP c p.second) w) (fun k hk=>⟨by rw[jm];omega,?_⟩) fun how hh=>h how fun e=>⟨a1,a2,hh e⟩
  refine bl (fun s=>s.2<=w.length/\(s.1≠0->Al c (bP c p.second) (w.take s.2))) (fun s=>w.length-s.2) ?_ ⟨Nat.zero_le _,fun _ k j x m=>by cases m⟩
  rintro⟨how,i⟩ nx ⟨hi,ho⟩ hnx
  dsimp only at hi ho
  have hml:(w.map Ln.toZ).length=w.length:=List.length_map ..
  refine⟨fun q=>?_,fun q=>hk _ fun e=>?_⟩
  ·have q:i<w.length:=hml ▸ aQ.1 q
   obtain⟨⟨k1,j1⟩,hl⟩:=aw q
   obtain⟨z,_,ld⟩:=xe W i k1 j1 hl
   obtain⟨x,hx,hj,_⟩:=ld.node C
   have next:∀ r,(r≠0->pa x.kind (cc idP (bP c p.second) k1 x) j1)->i+1<2 ^ 63/\nx (min how r,i+1):=by
    intro r hr
    refine⟨by omega,hnx _ ⟨q,fun e k j y m hy=>?_⟩ (by dsimp only;omega)⟩
    dsimp only at e m
    rw[na hl,gJ] at m
    rcases m with m|m
    ·exact ho (by omega) k j y m hy
    ·cases m
     rw[hx] at hy;cases hy
     exact hr (by omega)
   refine⟨⟨k1,Int.ofNat j1⟩,by rw[List.getElem?_map,hl];rfl,?_⟩
   exact xB C (l:=⟨k1,Int.ofNat j1⟩) hx rfl hj lb hf (next 0 fun e=>absurd rfl e) fun op=>⟨next 1 fun _=>op,next 2 fun _=>op⟩
  ·have q:w.length<=i:=hml ▸ bk.1 q
   have:=ho e
   rw[List.take_of_length_le q] at this
   exact this
def ntS (s old k:Nat):Nat->Nat->Nat:=fun m v=>if m=s then eC k [old,v] else v
theorem AM {s old k:Nat} (ho:old<=3):∀ i v,v<=3->ntS s old k i v<=3:=by
 intro i v hv
 unfold ntS
 split
 ·refine qG _ fun w m=>?_
  simp only[List.mem_cons,List.not_mem_nil,or_false] at m
  rcases m with rfl|rfl
  ·exact ho
  ·exact hv
 ·exact hv
theorem wh {c:Circ}{p:Pat}{s:Nat}{x:Node}{t:List Nat} (hx:c.nodes[s]?=some x) (hs:SrcN c s):baseV c p idP t s x=srcV c p s:=by
 refine gZ ?_
 unfold SrcN at hs
 rw[dj hx] at hs
 unfold combB
 refine decide_eq_false ?_
 omega
theorem Cb {c:Circ} (C:Cir c) {p:Pat} (hp:PatOk c p) {s old k:Nat} (ho:old<=3) (hs:SrcN c s):sol c p (ntS s old k) idP=vN c p s (eC k [old,(bP c p).getD s 0]):=by
 have V:=nc C hp
 have hw:eC k [old,(bP c p).getD s 0]<=3:=by
  refine qG _ fun w m=>?_
  simp only[List.mem_cons,List.not_mem_nil,or_false] at m
  rcases m with rfl|rfl
  ·exact ho
  ·exact V.le _
 have S:=qL C hp (m:=s) hw
 refine (Sol.is C hp (AM ho) mH ⟨S.len,fun i x hx=>?_,S.le⟩).symm
 rw[S.val i x hx]
 unfold sg ntS
 by_cases e:i=s
 ·subst e
  rw[if_pos rfl,if_pos rfl,wh hx hs,V.val i x hx,wh hx hs]
  rfl
 ·rw[if_neg e,if_neg e]
theorem sZ {v:Nat} (h:v<=1):eY v=1-v:=by unfold eY;rw[if_pos h]
theorem Ai {c:Circ} (P:Plz c) {p:Pat} (F:Full c p) {s old v:Nat} (hs:SrcN c s) (ho:old<=1) (hb:(bP c p).getD s 0=eY old) :
  (v=(bP c p).getD s 0->sol c p (ntS s old (if 1-v=1 then 7 else 5)) idP=vN c p s (1-(bP c p).getD s 0)) /\
  (v=eY ((bP c p).getD s 0)->sol c p (ntS s old (if 1-v=1 then 7 else 5)) idP=vN c p s ((bP c p).getD s 0)):=by
 have C:=P.cir
 have e1:=fun k=>Cb C F.pat (s:=s) (old:=old) (k:=k) (by omega) hs
 have h01:old=0\/old=1:=by omega
 rw[sZ ho] at hb
 constructor
 ·rintro rfl
  rw[e1,hb]
  rcases h01 with rfl|rfl <;> rfl
 ·rintro rfl
  rw[e1,hb]
  rcases h01 with rfl|rfl <;> rfl
def sn (c:Circ) (s:Nat):Bool:=decide (kd c s=0\/kd c s=14)
theorem jk {c:Circ}{s:Nat}:sn c s=true↔SrcN c s:=decide_eq_true_iff
def toN (c:Circ):Nat->Nat->List (Nat×List Ln)
 |0,_=>[]
 |f+1,n=>if sn c n=true then [(n,[])] else (insOf c n).zipIdx.flatMap fun y=>(toN c f y.1).map fun z=>(z.1,z.2++[⟨n,y.2⟩])
theorem Ld.Em {c:Circ} (C:Cir c) {m k j:Nat} (h:Ld c m k j):sn c k=false:=by
 obtain⟨x,hx,_,hc⟩:=h.node C
 have hc:=of_decide_eq_true hc
 unfold sn
 rw[dj hx]
 refine decide_eq_false ?_
 omega
theorem CD {c:Circ} (C:Cir c) {s n:Nat}{w:List Ln} (h:Pre c s n w) (hs:SrcN c s):∀ f,n<f->(s,w)∈toN c f n:=by
 induction h with
 |here =>
  intro f hf
  cases f with
  |zero=>omega
  |succ f=>rw[toN,if_pos (jk.2 hs)];exact List.mem_singleton.2 rfl
 |@step m k j l h hd ih =>
  intro f hf
  have hlt:=hd.lt C
  cases f with
  |zero=>omega
  |succ f =>
   have hns:=hd.Em C
   rw[toN,if_neg (by rw[hns];decide)]
   refine List.mem_flatMap.2 ⟨(m,j),List.mem_zipIdx_iff_getElem?.2 hd.pin,List.mem_map.2 ⟨(s,l),ih f (by omega),rfl⟩⟩
theorem vr {α β:Type}{f g:α->List β}:∀ {l:List α},(∀ x∈l,f x=g x)->l.flatMap f=l.flatMap g
 |[],_=>rfl
 |a::l,h=>by rw[List.flatMap_cons,List.flatMap_cons,h a (.head _),vr fun x m=>h x (.tail _ m)]
theorem BF {c:Circ} (C:Cir c):∀ f g n,n<f->n<g->n<c.nodes.length->toN c f n=toN c g n:=by
 intro f
 induction f with
 |zero=>intro g n h;omega
 |succ f ih =>
  intro g n hf hg hn
  cases g with
  |zero=>omega
  |succ g =>
   rw[toN,toN]
   split
   ·rfl
   ·rename_i hsrc
    obtain⟨x,hx⟩:=aw hn
    refine vr fun y hy=>?_
    have hy:=List.mem_zipIdx_iff_getElem?.1 hy
    rw[bp hx] at hy
    have hld:Ld c y.1 n y.2:=⟨by rw[bp hx];exact hy,fun e=>hsrc (jk.2 (.inr e))⟩
    have:=hld.lt C
    rw[ih g y.1 (by omega) (by omega) (by omega)]
def cN (c:Circ) (n:Nat):Nat:=(toN c (n+1) n).length
theorem AZ {c:Circ}{n:Nat} (h:SrcN c n):cN c n=1:=by
 unfold cN
 rw[toN,if_pos (jk.2 h)];rfl
theorem yc {c:Circ} (C:Cir c) {n:Nat}{x:Node} (hx:c.nodes[n]?=some x) (h:¬ SrcN c n):cN c n=(x.ins.map (cN c)).sum:=by
 have hn:=ak hx
 unfold cN
 rw[toN,if_neg (fun e=>h (jk.1 e)),bp hx]
 rw[List.length_flatMap]
 have e:x.ins.zipIdx.map (fun y=>((toN c n y.1).map fun z=>(z.1,z.2++[(⟨n,y.2⟩:Ln)])).length)=(x.ins.zipIdx.map Prod.fst).map (fun y=>(toN c (y+1) y).length):=by
  rw[List.map_map]
  refine List.map_congr_left fun y hy=>?_
  have hy:=List.mem_zipIdx_iff_getElem?.1 hy
  have hld:Ld c y.1 n y.2:=⟨by rw[bp hx];exact hy,fun e=>h (.inr e)⟩
  have:=hld.lt C
  rw[List.length_map,BF C n (y.1+1) y.1 (by omega) (by omega) (by omega)]
  rfl
 rw[e,List.zipIdx_map_fst]
theorem DO {l:List Nat}{f:Nat->Nat}{b:Nat} (h:∀ y∈l,f y<=b):(l.map f).sum<=l.length*b:=by
 induction l with
 |nil=>exact Nat.zero_le _
 |cons a l ih =>
  have h1:=h a (.head _)
  have h2:=ih fun y m=>h y (.tail _ m)
  rw[List.map_cons,List.sum_cons,List.length_cons,Nat.succ_mul]
  omega
theorem Dd {c:Circ} (C:Cir c):∀ f n,n<f->n<c.nodes.length->cN c n<=16 ^ n:=by
 intro f
 induction f with
 |zero=>intro n h;omega
 |succ f ih =>
  intro n hf hn
  obtain⟨x,hx⟩:=aw hn
  by_cases hs:SrcN c n
  ·rw[AZ hs];exact Nat.one_le_pow _ _ (by decide)
  ·rw[yc C hx hs]
   have few:=(C.good.node n x hx).few
   by_cases h0:n=0
   ·have:x.ins=[]:=by
     refine List.eq_nil_iff_forall_not_mem.2 fun m hm=>?_
     obtain⟨j,hj⟩:=List.mem_iff_getElem?.1 hm
     have ld:Ld c m n j:=⟨by rw[bp hx];exact hj,fun e=>hs (.inr e)⟩
     have:=ld.lt C
     omega
    rw[this];exact Nat.zero_le _
   ·have h1:(x.ins.map (cN c)).sum<=x.ins.length*16 ^ (n-1):=DO fun y hy=>by
     obtain⟨j,hj⟩:=List.mem_iff_getElem?.1 hy
     have ld:Ld c y n j:=⟨by rw[bp hx];exact hj,fun e=>hs (.inr e)⟩
     have:=ld.lt C
     exact Nat.le_trans (ih y (by omega) (by omega)) (Nat.pow_le_pow_right (by decide) (by omega))
    have h2:16 ^ n=16*16 ^ (n-1):=by
     have:n=n-1+1:=by omega
     rw[this,Nat.pow_succ,Nat.mul_comm];rfl
    rw[h2]
    exact Nat.le_trans h1 (Nat.mul_le_mul_right _ few)
def oC (c:Circ) (n:Nat):Bool:=c.outs.contains n||(ofN c [14]).any fun d=>dOf c d==n
theorem kz {c:Circ}{n:Nat}:oC c n=true↔ObsN c n:=by
 unfold oC ObsN
 simp
def BM (c:Circ):List Nat:=(List.range c.nodes.length).filter (oC c)
def B1 (c:Circ):List (Nat×List Ln):=(BM c).flatMap fun n=>toN c (n+1) n
def totP (c:Circ):Nat:=((BM c).map (cN c)).sum
theorem zK (c:Circ):(B1 c).length=totP c:=by
 unfold B1 totP
 rw[List.length_flatMap];rfl
theorem Bo {c:Circ} (C:Cir c) {s:Nat}{w:List Ln} (W:Way c s w) (hs:SrcN c s):(s,w)∈B1 c:=by
 obtain⟨e,h1,h2⟩:=Way.fin .here W
 rw[List.nil_append] at h1
 exact List.mem_flatMap.2 ⟨e,List.mem_filter.2 ⟨List.mem_range.2 (h2.lt C),kz.2 h2⟩,CD C h1 hs (e+1) (Nat.lt_succ_self _)⟩
theorem El {c:Circ} (C:Cir c) {n:Nat} (hn:n<c.nodes.length):cN c n<=2 ^ 60:=by
 have hlen:=C.len
 refine Nat.le_trans (Dd C (n+1) n (Nat.lt_succ_self _) hn) ?_
 have:16 ^ n<=16 ^ 15:=Nat.pow_le_pow_right (by decide) (by omega)
 exact Nat.le_trans this (by decide)
theorem jJ (a b:List Nat):(a++b).sum=a.sum+b.sum:=by
 induction a with
 |nil=>simp
 |cons x a ih=>rw[List.cons_append,List.sum_cons,List.sum_cons,ih];omega
theorem DI {c:Circ} (C:Cir c):((List.range c.nodes.length).map (cN c)).sum<2 ^ 61:=by
 have hlen:=C.len
 have key:∀ k,k<=c.nodes.length->((List.range k).map (cN c)).sum<=((List.range k).map fun n=>16 ^ n).sum:=by
  intro k
  induction k with
  |zero=>intro _;exact Nat.le_refl _
  |succ k ih =>
   intro hk
   have h1:=ih (by omega)
   have h2:=Dd C (k+1) k (Nat.lt_succ_self _) (by omega)
   rw[List.range_succ,List.map_append,List.map_append,jJ,jJ]
   simp only[List.map_cons,List.map_nil,List.sum_cons,List.sum_nil]
   omega
 have mono:∀ k,k<=16->((List.range k).map fun n=>16 ^ n).sum<2 ^ 61:=by decide
 exact Nat.lt_of_le_of_lt (key _ (Nat.le_refl _)) (mono _ hlen)
theorem Ck {l:List Nat}{q:Nat->Bool}{f:Nat->Nat}:((l.filter q).map f).sum<=(l.map f).sum:=by
 induction l with
 |nil=>exact Nat.le_refl _
 |cons a l ih =>
  rw[List.filter_cons]
  split
  ·rw[List.map_cons,List.map_cons,List.sum_cons,List.sum_cons];omega
  ·rw[List.map_cons,List.sum_cons];omega
def ue (c:Circ) (o:List Nat) (i:Nat):Nat:=(((o.take i).filter (oC c)).map (cN c)).sum
theorem Cn {c:Circ} (C:Cir c) {o:List Nat} (ho:o.Perm (List.range c.nodes.length)) (i:Nat):ue c o i<2 ^ 61:=by
 have h1:ue c o i<=((o.take i).map (cN c)).sum:=Ck
 have h2:(o.map (cN c)).sum=((o.take i).map (cN c)).sum+((o.drop i).map (cN c)).sum:=by
  rw[<- jJ,<- List.map_append,List.take_append_drop]
 have h3:(o.map (cN c)).sum=((List.range c.nodes.length).map (cN c)).sum:=(ho.map _).sum_nat
 have:=DI C
 omega
theorem zf {c:Circ}{o:List Nat}{i n:Nat} (h:o[i]?=some n):ue c o (i+1)=ue c o i+if oC c n=true then cN c n else 0:=by
 unfold ue
 rw[na h,List.filter_append,List.map_append,jJ]
 congr 1
 by_cases e:oC c n=true
 ·rw[if_pos e,List.filter_cons,if_pos e];simp
 ·rw[if_neg e,List.filter_cons,if_neg e];rfl
theorem BN {c:Circ} (C:Cir c) {K:Nat×Nat->Prop} (h:K (totP c,0)):dN c K:=by
 have hlen:=C.len
 unfold dN
 refine mV C ⟨(fun q=>absurd rfl (dV.1 q)),fun _=>kc C.good fun o ho=>kB C fun es hes hob=>⟨by omega,by omega,by omega,by omega,?_⟩⟩
 dsimp only
 have hol:o.length=c.nodes.length:=by have:=ho.perm.length_eq;simpa using this
 refine aD (fun s=>s.2.2.2<=o.length/\s.1.length=c.nodes.length/\s.2.1.length=c.nodes.length/\(∀ (m:Nat) (v:Bool),s.2.1[m]?=some v->v=false)/\(∀ a n:Nat,o[a]?=some n->(a<s.2.2.2->s.1[n]?=some (cN c n))/\(s.2.2.2<=a->s.1[n]?=some 0))/\s.2.2.1=ue c o s.2.2.2) (fun s=>o.length-s.2.2.2)
  (fun s=>s=totP c) ?_ ⟨Nat.zero_le _,by simp,by simp,fun m v e=>?_,fun a n e=>⟨fun q=>absurd q (Nat.not_lt_zero _),fun _=>?_⟩,rfl⟩ fun _ e=>e ▸ h
 rotate_left
 ·dsimp only at e
  rw[List.getElem?_replicate] at e
  split at e
  ·cases e;rfl
  ·cases e
 ·dsimp only
  rw[List.getElem?_replicate,if_pos]
  exact List.mem_range.1 (ho.perm.mem_iff.1 (List.mem_of_getElem? e))
 rintro k ⟨ms,ov,sm,i⟩ nx ⟨hi,hml,hvl,hov,hms,hsm⟩ hnx hk
 dsimp only at hi hml hvl hov hms hsm
 refine⟨fun q=>?_,fun q=>hk _ ?_⟩
 ·have q:i<o.length:=aQ.1 q
  obtain⟨n,hn⟩:=aw q
  have hnn:n<c.nodes.length:=List.mem_range.1 (ho.perm.mem_iff.1 (List.mem_of_getElem? hn))
  obtain⟨x,hx⟩:=aw hnn
  have few:=(C.good.node n x hx).few
  have hn60:=El C hnn
  have hsb:=Cn C ho.perm (i+1)
  have hss:=zf (c:=c) hn
  refine eU (fun s=>s.1.length=c.nodes.length/\s.2.1.length=c.nodes.length/\(∀ (m:Nat) (v:Bool),s.2.1[m]?=some v->v=false)/\(∀ a m:Nat,o[a]?=some m->(a<i+1->s.1[m]?=some (cN c m))/\(i+1<=a->s.1[m]?=some 0))/\s.2.2=ue c o (i+1)) (fun k2 hk2=>⟨n,hn,x,hx,?_⟩) fun s hs=>⟨by dsimp only;omega,hnx _ ⟨q,hs⟩ (by dsimp only;omega)⟩
  refine eU (fun s=>s.1.length=c.nodes.length/\s.2.length=c.nodes.length/\(∀ (m:Nat) (v:Bool),s.2[m]?=some v->v=false)/\s.1[n]?=some (cN c n)/\∀ m:Nat,m≠n->s.1[m]?=ms[m]?) (fun k3 hk3=>?_) ?_
  ·have hm0:=(hms i n hn).2 (Nat.le_refl _)
   have src:SrcN c n->n<c.nodes.length/\∃ x26,ms[n]?=some x26/\k3 ((ms.set n 1),ov):=fun hs =>
    ⟨hnn,0,hm0,hk3 _ ⟨(List.length_set ..).trans hml,hvl,hov,by dsimp only;rw[List.getElem?_set_self (by omega),AZ hs],fun m e=>List.getElem?_set_ne (fun w=>e w.symm)⟩⟩
   refine⟨fun e=>src (.inl (by rw[dj hx];exact bD.1 e)),fun e0=>⟨fun e=>src (.inr (by rw[dj hx];exact bD.1 e)),fun e14=>?_⟩⟩
   have hns:¬ SrcN c n:=by
    unfold SrcN
    rw[dj hx]
    exact fun w=>w.elim (bW.1 e0) (bW.1 e14)
   have hg:=yc C hx hns
   refine bl (fun s=>s.2.2<=x.ins.length/\s.1.length=c.nodes.length/\s.2.1.length=c.nodes.length/\(∀ (m:Nat) (v:Bool),s.2.1[m]?=some v->v=false)/\s.1[n]?=some ((x.ins.take s.2.2).map (cN c)).sum/\∀ m:Nat,m≠n->s.1[m]?=ms[m]?) (fun s=>x.ins.length-s.2.2) ?_ ⟨Nat.zero_le _,hml,hvl,hov,hm0,fun _ _=>rfl⟩
   rintro⟨mt,vt,j⟩ nx2 ⟨hj,a1,a2,a3,a4,a5⟩ hnx2
   dsimp only at hj a1 a2 a3 a4 a5
   refine⟨fun q2=>?_,fun q2=>hk3 _ ⟨a1,a2,a3,?_,a5⟩⟩
   ·have q2:j<x.ins.length:=aQ.1 q2
    obtain⟨y,hy⟩:=aw q2
    have ld:Ld c y n j:=⟨by rw[bp hx];exact hy,fun e=>hns (.inr e)⟩
    have hlt:=ld.lt C
    have hcomb:combB x.kind=true:=by
     obtain⟨x',hx',_,hc⟩:=ld.node C
     rw[hx] at hx';cases hx';exact hc
    obtain⟨b,hb1,hb2⟩:=ho.before i n x y hn hx (of_decide_eq_true hcomb) (List.mem_of_getElem? hy)
    have hmy:mt[y]?=some (cN c y):=(a5 y (by omega)).trans ((hms b y hb2).1 hb1)
    obtain⟨vn,hvn⟩:=aw (l:=vt) (i:=n) (by omega)
    obtain⟨vy,hvy⟩:=aw (l:=vt) (i:=y) (by omega)
    have e1:=a3 n vn hvn
    have e2:=a3 y vy hvy
    subst e1 e2
    have hpart:((x.ins.take j).map (cN c)).sum+cN c y<=cN c n:=by
     rw[hg]
     have e:x.ins=x.ins.take j++([y]++x.ins.drop (j+1)):=by
      rw[<- List.append_assoc,<- na hy,List.take_append_drop]
     have:(x.ins.map (cN c)).sum=((x.ins.take j).map (cN c)).sum+(cN c y+((x.ins.drop (j+1)).map (cN c)).sum):=by
      conv=>lhs;rw[e]
      rw[List.map_append,jJ,List.map_append,jJ];rfl
     omega
    refine eU (fun s=>s.1.length=c.nodes.length/\s.2.length=c.nodes.length/\(∀ (m:Nat) (v:Bool),s.2[m]?=some v->v=false)/\s.1[n]?=some ((x.ins.take (j+1)).map (cN c)).sum/\∀ m:Nat,m≠n->s.1[m]?=ms[m]?) (fun k4 hk4=>⟨y,hy,hnn,_,a4,by omega,_,hmy,⟨by omega,rfl,hnn,_,a4,hnn,false,hvn,(fun e=>by cases e),fun _=>⟨by omega,false,hvy,(fun e=>by cases e),fun _=>⟨hnn,false,hvn,hk4 _ ?_⟩⟩⟩⟩) fun s hs=>⟨by dsimp only;omega,hnx2 _ ⟨q2,hs⟩ (by dsimp only;omega)⟩
    refine⟨(List.length_set ..).trans a1,(List.length_set ..).trans a2,fun m v e=>?_,?_,fun m e=>?_⟩
    ·dsimp only at e
     rw[List.getElem?_set] at e
     split at e
     ·split at e
      ·cases e;exact bk.2 (Nat.le_refl _)
      ·cases e
     ·exact a3 m v e
    ·dsimp only
     rw[List.getElem?_set_self (by omega),na hy,List.map_append,jJ];rfl
    ·dsimp only
     rw[List.getElem?_set_ne (fun w=>e w.symm)]
     exact a5 m e
   ·have q2:x.ins.length<=j:=bk.1 q2
    rw[List.take_of_length_le q2] at a4
    rw[hg];exact a4
  ·rintro⟨mt,vt⟩ ⟨b1,b2,b3,b4,b5⟩
   dsimp only at b1 b2 b3 b4 b5 ⊢
   obtain⟨en,hen⟩:=aw (l:=es) (i:=n) (by omega)
   obtain⟨vn,hvn⟩:=aw (l:=vt) (i:=n) (by omega)
   have e1:=b3 n vn hvn
   subst e1
   have hobs:en=oC c n:=by
    have:=hob n
    rw[List.getD,hen] at this
    rw[Bool.eq_iff_iff,kz]
    exact this
   have fin:∀ v,v=ue c o (i+1)->k2 (mt,vt,v):=fun v hv=>hk2 _ ⟨b1,b2,b3,fun a m ha=>?_,hv⟩
   ·refine⟨en,hen,fun e=>⟨hnn,_,b4,⟨?_,rfl,?_⟩⟩,fun e=>fin _ ?_⟩
    ·rw[<- hobs,if_pos e] at hss
     omega
    ·refine cg (a:=false) (fun G=>⟨fun q2=>absurd (aQ.1 q2) (Nat.lt_irrefl _),fun _=>⟨hnn,false,hvn,G⟩⟩) ⟨(fun q2=>by cases q2),fun _=>fin _ ?_⟩
     rw[hss,<- hobs,if_pos e,hsm]
    ·rw[hss,<- hobs,e,hsm];rfl
   ·dsimp only
    by_cases e:m=n
    ·subst e
     have:a=i:=pU ho ha hn
     subst this
     exact⟨fun _=>b4,fun w=>by omega⟩
    ·have hai:a≠i:=fun w=>e (by rw[w,hn] at ha;exact (Option.some.inj ha).symm)
     rw[b5 m e]
     exact⟨fun w=>(hms a m ha).1 (by omega),fun w=>(hms a m ha).2 (by omega)⟩
 ·have q:o.length<=i:=bk.1 q
  rw[hsm]
  unfold ue totP BM
  rw[List.take_of_length_le q]
  exact ((ho.perm.filter _).map _).sum_nat
structure StepsOk (c:Circ) (L:List (List LnZ)):Prop where
 len:L.length=c.nodes.length
 nodup:∀ (m:Nat) (row:List LnZ),L[m]?=some row->row.Nodup
 mem:∀ (m:Nat) (row:List LnZ),L[m]?=some row->∀ z,z∈row ↔ ∃ k j,z=⟨k,Int.ofNat j⟩/\Ld c m k j
def enW (c:Circ) (L:List (List LnZ)):Nat->Nat->List (List LnZ)
 |0,m=>if oC c m=true then [[]] else []
 |k+1,m=>(L.getD m []).flatMap fun z=>(enW c L k z.node).map (z :: ·)
theorem zZ (k j:Nat):Ln.toZ ⟨k,j⟩=⟨k,Int.ofNat j⟩:=rfl
theorem xS {c:Circ}{L:List (List LnZ)} (S:StepsOk c L) (C:Cir c):∀ (k m:Nat),m<c.nodes.length->∀ z,z∈enW c L k m ↔ ∃ w,Way c m w/\w.length=k/\z=w.map Ln.toZ:=by
 intro k
 induction k with
 |zero =>
  intro m hm z
  rw[enW]
  constructor
  ·intro h
   split at h
   ·rename_i ho
    rw[List.mem_singleton] at h
    subst h
    exact⟨[],.stop (kz.1 ho),rfl,rfl⟩
   ·cases h
  ·rintro⟨w,W,hl,rfl⟩
   obtain rfl:=List.length_eq_zero_iff.1 hl
   cases W with
   |stop o=>rw[if_pos (kz.2 o)];exact List.mem_singleton.2 rfl
 |succ k ih =>
  intro m hm z
  obtain⟨row,hrow⟩:=aw (l:=L) (i:=m) (by rw[S.len];exact hm)
  have hg:L.getD m []=row:=by rw[List.getD,hrow];rfl
  rw[enW,hg]
  constructor
  ·intro h
   obtain⟨y,hy,h2⟩:=List.mem_flatMap.1 h
   obtain⟨v,hv,rfl⟩:=List.mem_map.1 h2
   obtain⟨k',j,rfl,ld⟩:=(S.mem m row hrow y).1 hy
   obtain⟨x,hx,_⟩:=ld.node C
   obtain⟨w,W,hl,rfl⟩:=(ih k' (ak hx) v).1 hv
   exact⟨⟨k',j⟩::w,.step ld W,by rw[List.length_cons,hl],rfl⟩
  ·rintro⟨w,W,hl,rfl⟩
   cases W with
   |stop o=>cases hl
   |@step _ k' j l ld W =>
    obtain⟨x,hx,_⟩:=ld.node C
    refine List.mem_flatMap.2 ⟨⟨k',Int.ofNat j⟩,(S.mem m row hrow _).2 ⟨k',j,rfl,ld⟩,List.mem_map.2 ⟨l.map Ln.toZ,(ih k' (ak hx) _).2 ⟨l,W,by rw[List.length_cons] at hl;omega,rfl⟩,rfl⟩⟩
theorem gu {α β:Type}{f:α->β} (hf:∀ a b,f a=f b->a=b):∀ {l:List α},l.Nodup->(l.map f).Nodup
 |[],_=>List.nodup_nil
 |a::l,h=>by
  rw[List.nodup_cons] at h
  rw[List.map_cons,List.nodup_cons]
  refine⟨fun m=>?_,gu hf h.2⟩
  obtain⟨b,hb,e⟩:=List.mem_map.1 m
  rw[hf b a e] at hb
  exact h.1 hb
theorem im {α β:Type}{f:α->List β}:∀ {l:List α},l.Nodup->(∀ a∈l,(f a).Nodup)->(∀ a∈l,∀ b∈l,a≠b->∀ x∈f a,x ∉ f b)->(l.flatMap f).Nodup
 |[],_,_,_=>List.nodup_nil
 |a::l,nd,h1,h2=>by
  rw[List.nodup_cons] at nd
  rw[List.flatMap_cons,List.nodup_append]
  refine⟨h1 a (.head _),im nd.2 (fun b m=>h1 b (.tail _ m)) (fun b m d m2=>h2 b (.tail _ m) d (.tail _ m2)),fun x hx y hy e=>?_⟩
  subst e
  obtain⟨b,hb,hxb⟩:=List.mem_flatMap.1 hy
  exact h2 a (.head _) b (.tail _ hb) (fun e=>nd.1 (e ▸ hb)) x hx hxb
theorem zn {c:Circ}{L:List (List LnZ)} (S:StepsOk c L) (C:Cir c):∀ (k m:Nat),m<c.nodes.length->(enW c L k m).Nodup:=by
 intro k
 induction k with
 |zero =>
  intro m _
  rw[enW]
  split
  ·simp
  ·exact List.nodup_nil
 |succ k ih =>
  intro m hm
  obtain⟨row,hrow⟩:=aw (l:=L) (i:=m) (by rw[S.len];exact hm)
  have hg:L.getD m []=row:=by rw[List.getD,hrow];rfl
  rw[enW,hg]
  refine im (S.nodup m row hrow) (fun z hz=>?_) fun a _ b _ hne x hx hx2=>?_
  ·obtain⟨k',j,rfl,ld⟩:=(S.mem m row hrow z).1 hz
   obtain⟨y,hy,_⟩:=ld.node C
   exact gu (fun u v e=>(List.cons.inj e).2) (ih k' (ak hy))
  ·obtain⟨u,_,rfl⟩:=List.mem_map.1 hx
   obtain⟨v,_,e⟩:=List.mem_map.1 hx2
   exact hne (List.cons.inj e).1.symm
def enL (c:Circ) (L:List (List LnZ)) (k:Nat):List (List LnZ):=((List.range c.nodes.length).filter (sn c)).flatMap fun s=>(enW c L k s).map ((⟨s,Int.negSucc 0⟩:LnZ) :: ·)
def enA (c:Circ) (L:List (List LnZ)):List (List LnZ):=(List.range 256).reverse.flatMap (enL c L)
theorem pX {c:Circ}{L:List (List LnZ)} (S:StepsOk c L) (C:Cir c) {k:Nat}{z:List LnZ}:z∈enL c L k ↔ ∃ s w,s<c.nodes.length/\SrcN c s/\Way c s w/\w.length=k/\z=pthZ s w:=by
 unfold enL
 rw[List.mem_flatMap]
 constructor
 ·rintro⟨s,hs,h⟩
  obtain⟨h1,h2⟩:=List.mem_filter.1 hs
  obtain⟨v,hv,rfl⟩:=List.mem_map.1 h
  obtain⟨w,W,hl,rfl⟩:=(xS S C k s (List.mem_range.1 h1) v).1 hv
  exact⟨s,w,List.mem_range.1 h1,jk.1 h2,W,hl,rfl⟩
 ·rintro⟨s,w,h1,h2,W,hl,rfl⟩
  exact⟨s,List.mem_filter.2 ⟨List.mem_range.2 h1,jk.2 h2⟩,List.mem_map.2 ⟨w.map Ln.toZ,(xS S C k s h1 _).2 ⟨w,W,hl,rfl⟩,rfl⟩⟩
theorem zF {c:Circ}{L:List (List LnZ)} (S:StepsOk c L) (C:Cir c) (k:Nat):(enL c L k).Nodup:=by
 unfold enL
 refine im (List.nodup_range.filter _) (fun s hs=>?_) fun a _ b _ hne x hx hx2=>?_
 ·exact gu (fun u v e=>(List.cons.inj e).2) (zn S C k s (List.mem_range.1 (List.mem_filter.1 hs).1))
 ·obtain⟨u,_,rfl⟩:=List.mem_map.1 hx
  obtain⟨v,_,e⟩:=List.mem_map.1 hx2
  have:=(List.cons.inj e).1
  simp only[LnZ.mk.injEq,and_true] at this
  exact hne this.symm
theorem uu {c:Circ}{L:List (List LnZ)} (S:StepsOk c L) (C:Cir c) {z:List LnZ}:z∈enA c L ↔ ∃ s w,SrcN c s/\Way c s w/\z=pthZ s w:=by
 have hlen:=C.len
 unfold enA
 rw[List.mem_flatMap]
 constructor
 ·rintro⟨k,_,h⟩
  obtain⟨s,w,_,h2,W,_,e⟩:=(pX S C).1 h
  exact⟨s,w,h2,W,e⟩
 ·rintro⟨s,w,h2,W,e⟩
  have:=W.len C
  exact⟨w.length,List.mem_reverse.2 (List.mem_range.2 (by omega)),(pX S C).2 ⟨s,w,by omega,h2,W,rfl,e⟩⟩
theorem tj {c:Circ}{L:List (List LnZ)} (S:StepsOk c L) (C:Cir c):(enA c L).Nodup:=by
 unfold enA
 refine im ((List.reverse_perm _).nodup_iff.2 List.nodup_range) (fun k _=>zF S C k) fun a _ b _ hne x hx hx2=>?_
 obtain⟨s,w,_,_,_,h1,e1⟩:=(pX S C).1 hx
 obtain⟨s',w',_,_,_,h2,e2⟩:=(pX S C).1 hx2
 have:=congrArg List.length (e1.symm.trans e2)
 rw[jm,jm] at this
 omega
theorem Cf {a b:Ln} (h:Ln.toZ a=Ln.toZ b):a=b:=by
 obtain⟨k,j⟩:=a
 obtain⟨k',j'⟩:=b
 rw[zZ,zZ,LnZ.mk.injEq] at h
 rw[h.1,Int.ofNat.inj h.2]
theorem AA {s s':Nat}{w w':List Ln} (h:pthZ s w=pthZ s' w'):s=s'/\w=w':=by
 unfold pthZ at h
 obtain⟨h1,h2⟩:=List.cons.inj h
 refine⟨congrArg LnZ.node h1,?_⟩
 apply List.ext_getElem?
 intro i
 have:=congrArg (fun l=>l[i]?) h2
 simp only[List.getElem?_map] at this
 cases e1:w[i]? with
 |none =>
  rw[e1] at this
  cases e2:w'[i]? with
  |none=>rfl
  |some b=>rw[e2] at this;cases this
 |some a =>
  rw[e1] at this
  cases e2:w'[i]? with
  |none=>rw[e2] at this;cases this
  |some b =>
   rw[e2] at this
   rw[Cf (Option.some.inj this)]
theorem As {α:Type} [DecidableEq α]:∀ {l m:List α},l.Nodup->(∀ x∈l,x∈m)->l.length<=m.length
 |[],_,_,_=>Nat.zero_le _
 |a::l,m,nd,h=>by
  rw[List.nodup_cons] at nd
  have ha:=h a (.head _)
  have:=As (l:=l) (m:=m.erase a) nd.2 fun x hx=>(List.mem_erase_of_ne (fun (e:x=a)=>nd.1 (by rw[e] at hx;exact hx))).2 (h x (.tail _ hx))
  rw[List.length_erase_of_mem ha] at this
  have:=List.length_pos_of_mem ha
  rw[List.length_cons]
  omega
theorem Cz {c:Circ}{L:List (List LnZ)} (S:StepsOk c L) (C:Cir c):(enA c L).length<=totP c:=by
 have h:=As (l:=enA c L) (m:=(B1 c).map fun z=>pthZ z.1 z.2) (tj S C) fun z hz=>by
  obtain⟨s,w,h2,W,rfl⟩:=(uu S C).1 hz
  exact List.mem_map.2 ⟨(s,w),Bo C W h2,rfl⟩
 rw[List.length_map,zK] at h
 exact h
structure LongOk (c:Circ) (n:Nat) (r:List (List LnZ)):Prop where
 path:∀ z∈r,∃ s w,SrcN c s/\Way c s w/\z=pthZ s w
 nodup:r.Nodup
 all:totP c<=n->∀ s w,SrcN c s->Way c s w->pthZ s w∈r
 len:r.length<=n
theorem CR {c:Circ}{L:List (List LnZ)} (S:StepsOk c L) (C:Cir c) (n:Nat):LongOk c n ((enA c L).take n):=by
 refine⟨fun z m=>(uu S C).1 (List.mem_of_mem_take m),(tj S C).sublist (List.take_sublist _ _),fun h s w hs W=>?_,by rw[List.length_take];omega⟩
 have:=Cz S C
 rw[List.take_of_length_le (by omega)]
 exact (uu S C).2 ⟨s,w,hs,W,rfl⟩
def jt (c:Circ) (n:Nat) (K:List (List LnZ)×Nat->Prop):Prop:=Cir c/\n<=4096/\∀ r,LongOk c n r->K (r,0)
set_option maxHeartbeats 8000000
def dC (p0:Circ) (p1:Flt) (p2:Pat) (p3:Pat) (K:(Rsp×Rsp×(List Nat)×Nat)->Prop):Prop :=
 df p0 p1 (fun r5=>((neN r5 0)=true->K ((⟨[],[]⟩:Rsp),(⟨[],[]⟩:Rsp),[],r5))/\((neN r5 0)=false->((neN p1.model 1)=true->K ((⟨[],[]⟩:Rsp),(⟨[],[]⟩:Rsp),[],7))/\((neN p1.model 1)=false->cq p0 p2 (fun r6=>((neN r6.2.2 0)=true->K ((⟨[],[]⟩:Rsp),(⟨[],[]⟩:Rsp),[],r6.2.2))/\((neN r6.2.2 0)=false->cq p0 p3 (fun r9=>((neN r9.2.2 0)=true->False)/\((neN r9.2.2 0)=false->ar (α:=Nat) (fun k11=>((!ltI p1.line.pin (Int.ofNat 0))=true->∃ x12,p0.nodes[p1.line.node]?=some x12/\∃ j14:Nat,p1.line.pin=Int.ofNat j14/\∃ x13,x12.ins[j14]?=some x13/\k11 x13)/\((!ltI p1.line.pin (Int.ofNat 0))=false->k11 p1.line.node)) (fun v10=>∃ x15,r6.2.1[v10]?=some x15/\p1.value<=1/\1<256/\ar (α:=Nat) (fun k19=>((eqN (1-p1.value) 1)=true->k19 7)/\((eqN (1-p1.value) 1)=false->k19 5)) (fun v18=>((ltI p1.line.pin (Int.ofNat 0))=true->1*p0.nodes.length<=2 ^ 48/\p0.nodes.length<2 ^ 63/\aV p0 (fun r32=>ar (α:=(List Nat)) (fun k34=>bC p0 (fun r35=>aB (S:=((List Nat)×Nat)) (fun (v36,v37) nx38=>((ltN v37 r35.length)=true->∃ x39,r35[v37]?=some x39/\∃ x40,p3.inp[v37]?=some x40/\x39<p0.nodes.length/\∃ x41,v36[x39]?=some x41/\v37+1<2 ^ 63/\nx38 ((v36.set x39 x40),(v37+1)))/\((ltN v37 r35.length)=false->k34 v36)) ((List.replicate p0.nodes.length (0:Nat)),0))) (fun v33=>ar (α:=(List Nat)) (fun k43=>aB (S:=((List Nat)×Nat)) (fun (v44,v45) nx46=>((ltN v45 r32.length)=true->∃ x47,r32[v45]?=some x47/\∃ x48,p3.state[v45]?=some x48/\x47<p0.nodes.length/\∃ x49,v44[x47]?=some x49/\v45+1<2 ^ 63/\nx46 ((v44.set x47 x48),(v45+1)))/\((ltN v45 r32.length)=false->k43 v44)) (v33,0)) (fun v42=>aO p0 (fun r50=>ar (α:=(List Nat)) (fun k52=>aB (S:=((List Nat)×Nat)) (fun (v53,v54) nx55=>((ltN v54 r50.1.length)=true->∃ x56,r50.1[v54]?=some x56/\ar (α:=(List Nat)) (fun k58=>∃ x59,p0.nodes[x56]?=some x59/\ar (α:=Bool) (fun k61=>((neN x59.kind 0)=true->k61 (neN x59.kind 14))/\((neN x59.kind 0)=false->k61 false)) (fun v60=>(v60=true->∃ x62,p0.nodes[x56]?=some x62/\ar (α:=(List Nat)) (fun k68=>∃ x69,p0.nodes[x56]?=some x69/\aB (S:=((List Nat)×Nat)) (fun (v71,v72) nx74=>((ltN v72 x69.ins.length)=true->∃ x75,x69.ins[v72]?=some x75/\x75<p0.nodes.length/\∃ x76,v53[x75]?=some x76/\(v71.length+([x76]:(List Nat)).length)*1<=2 ^ 47/\v72+1<2 ^ 63/\nx74 ((v71++([x76]:(List Nat))),(v72+1)))/\((ltN v72 x69.ins.length)=false->k68 v71)) (([]:List Nat),0)) (fun v66=>ba x62.kind v66 (fun r81=>x56<p0.nodes.length/\∃ x82,v53[x56]?=some x82/\k58 (v53.set x56 r81))))/\(v60=false->k58 v53))) (fun v57=>x56<p0.nodes.length/\∃ x83,v57[x56]?=some x83/\((eqN x56 p1.line.node)=true->ba v18 ([x15,x83]:(List Nat)) (fun r84=>x56<p0.nodes.length/\∃ x85,v57[x56]?=some x85/\v54+1<2 ^ 63/\nx55 ((v57.set x56 r84),(v54+1))))/\((eqN x56 p1.line.node)=false->x56<p0.nodes.length/\∃ x86,v57[x56]?=some x86/\v54+1<2 ^ 63/\nx55 ((v57.set x56 x83),(v54+1)))))/\((ltN v54 r50.1.length)=false->k52 v53)) (v42,0)) (fun v51=>ar (α:=(List Nat)) (fun k94=>aB (S:=((List Nat)×Nat)) (fun (v96,v97) nx99=>((ltN v97 p0.outs.length)=true->∃ x100,p0.outs[v97]?=some x100/\x100<p0.nodes.length/\∃ x101,v51[x100]?=some x101/\(v96.length+([x101]:(List Nat)).length)*1<=2 ^ 47/\v97+1<2 ^ 63/\nx99 ((v96++([x101]:(List Nat))),(v97+1)))/\((ltN v97 p0.outs.length)=false->k94 v96)) (([]:List Nat),0)) (fun v92=>ar (α:=(List Nat)) (fun k110=>aB (S:=((List Nat)×Nat)) (fun (v112,v113) nx116=>((ltN v113 r32.length)=true->∃ x117,r32[v113]?=some x117/\ar (α:=(List Nat)) (fun k125=>∃ x126,p0.nodes[x117]?=some x126/\aB (S:=((List Nat)×Nat)) (fun (v128,v129) nx133=>((ltN v129 x126.ins.length)=true->∃ x134,x126.ins[v129]?=some x134/\x134<p0.nodes.length/\∃ x135,v51[x134]?=some x135/\(v128.length+([x135]:(List Nat)).length)*1<=2 ^ 47/\v129+1<2 ^ 63/\nx133 ((v128++([x135]:(List Nat))),(v129+1)))/\((ltN v129 x126.ins.length)=false->k125 v128)) (([]:List Nat),0)) (fun v121=>∃ x140,v121[0]?=some x140/\ar (α:=Nat) (fun k145=>((eqN x140 3)=true->k145 2)/\((eqN x140 3)=false->k145 x140)) (fun v142=>(v112.length+([v142]:(List Nat)).length)*1<=2 ^ 47/\v113+1<2 ^ 63/\nx116 ((v112++([v142]:(List Nat))),(v113+1)))))/\((ltN v113 r32.length)=false->k110 v112)) (([]:List Nat),0)) (fun v107=>p0.nodes.length=v51.length/\K (r9.1,(⟨v92,v107⟩:Rsp),v51,0)))))))))/\((ltI p1.line.pin (Int.ofNat 0))=false->False))))))))))
theorem nP {p0:Circ}{p1:Flt}{p2:Pat}{p3:Pat}{K:(Rsp×Rsp×(List Nat)×Nat)->Prop} (hm:dC p0 p1 p2 p3 K) {h0:Heap} (hB:HasB vars h0):∃ r,K r/\CallD Tryz.prog NG 76 ⟨[ax p0,bE p1,dv p2,dv p3]⟩ h0 ((fun (r:(Rsp×Rsp×(List Nat)×Nat))=>Value.tuple ⟨[fF (r.1),fF (r.2.1),(ah 1 n8) (r.2.2.1),i64 (r.2.2.2)]⟩) r) h0:=by
 unfold dC at hm
 refine fw Tryz.func76 hB (enc:=(fun (r:(Rsp×Rsp×(List Nat)×Nat))=>Value.tuple ⟨[fF (r.1),fF (r.2.1),(ah 1 n8) (r.2.2.1),i64 (r.2.2.2)]⟩)) (fun r=>PureV.tup (ag.cons (ng _) (ag.cons (ng _) (ag.cons (cb (fun _=>ag.cons (PureV.flat rfl) ag.nil)) (ag.cons (PureV.flat rfl) (ag.nil)))))) fun O=>?_;conv=>whnf
 refine gX ?_
 refine fz ?_;refine gH ?_
 refine fz ?_;refine gH ?_
 refine fz ?_;refine gH ?_
 refine fz ?_;refine gH ?_
 (first|refine O.new (ai (l:=[nS,nS]) rfl rfl rfl) fun g1 h O=>?_|refine O.bF (ai (l:=[nS,nS]) rfl rfl rfl) fun g1 h O=>?_);refine gH ?_
 (first|refine O.new (ai (l:=[nS,nS]) rfl rfl rfl) fun g3 h O=>?_|refine O.bF (ai (l:=[nS,nS]) rfl rfl rfl) fun g3 h O=>?_);refine gH ?_
 refine gX ?_
 refine ca (nz hm O.has) fun r5 hm=>?_;refine gX ?_
 refine br hm (fun hm=>?_) fun hm=>?_
 ·refine gX ?_
  refine ldA (O.at (.tail _ (.head _))) ?_;refine gH ?_
  first|refine⟨.inr (.inr (bj rfl (O.at (.tail _ (.head _))) rfl rfl (lbE rfl) rfl)),?_⟩|refine⟨.inr (.inl (by kernel_rfl)),?_⟩
  refine gX ?_
  refine ldA (O.at (.head _)) ?_;refine gH ?_
  first|refine⟨.inr (.inr (bj rfl (O.at (.head _)) rfl rfl (lbE rfl) rfl)),?_⟩|refine⟨.inr (.inl (by kernel_rfl)),?_⟩
  refine gX ?_
  refine O.kO 2 (.tail _ (.head _)) fun h hext O=>?_;conv=>whnf
  refine⟨.inr hext,?_⟩;refine gH ?_
  refine O.kO 2 (.head _) fun h hext O=>?_;conv=>whnf
  refine⟨.inr hext,?_⟩;refine gX ?_
  refine⟨_,aL rfl rfl (O.at (.tail _ (.head _))) rfl rfl (lbE rfl) rfl,?_⟩;conv=>whnf
  refine⟨_,aL rfl rfl (O.at (.head _)) rfl rfl (lbE rfl) rfl,?_⟩;conv=>whnf
  exact⟨((⟨[],[]⟩:Rsp),(⟨[],[]⟩:Rsp),[],r5),hm,O.ext,fun h2 F=>VLe.tup (LLe.cons (VLe.agg (LLe.cons (VLe.nil _ _) (LLe.cons (VLe.nil _ _) (LLe.nil _)))) (LLe.cons (VLe.agg (LLe.cons (VLe.nil _ _) (LLe.cons (VLe.nil _ _) (LLe.nil _)))) (LLe.cons (VLe.nil _ _) (LLe.cons (VLe.refl _ _) (LLe.nil _)))))⟩
 ·refine gX ?_
  refine br hm (fun hm=>?_) fun hm=>?_
  ·refine gX ?_
   refine ldA (O.at (.tail _ (.head _))) ?_;refine gH ?_
   first|refine⟨.inr (.inr (bj rfl (O.at (.tail _ (.head _))) rfl rfl (lbE rfl) rfl)),?_⟩|refine⟨.inr (.inl (by kernel_rfl)),?_⟩
   refine gX ?_
   refine ldA (O.at (.head _)) ?_;refine gH ?_
   first|refine⟨.inr (.inr (bj rfl (O.at (.head _)) rfl rfl (lbE rfl) rfl)),?_⟩|refine⟨.inr (.inl (by kernel_rfl)),?_⟩
   refine gX ?_
   refine O.kO 2 (.tail _ (.head _)) fun h hext O=>?_;conv=>whnf
   refine⟨.inr hext,?_⟩;refine gH ?_
   refine O.kO 2 (.head _) fun h hext O=>?_;conv=>whnf
   refine⟨.inr hext,?_⟩;refine gX ?_
   refine⟨_,aL rfl rfl (O.at (.tail _ (.head _))) rfl rfl (lbE rfl) rfl,?_⟩;conv=>whnf
   refine⟨_,aL rfl rfl (O.at (.head _)) rfl rfl (lbE rfl) rfl,?_⟩;conv=>whnf
   exact⟨((⟨[],[]⟩:Rsp),(⟨[],[]⟩:Rsp),[],7),hm,O.ext,fun h2 F=>VLe.tup (LLe.cons (VLe.agg (LLe.cons (VLe.nil _ _) (LLe.cons (VLe.nil _ _) (LLe.nil _)))) (LLe.cons (VLe.agg (LLe.cons (VLe.nil _ _) (LLe.cons (VLe.nil _ _) (LLe.nil _)))) (LLe.cons (VLe.nil _ _) (LLe.cons (VLe.refl _ _) (LLe.nil _)))))⟩
  ·refine gX ?_
   refine ca (eF hm O.has) fun r6 hm=>?_;refine gH ?_
   (first|refine O.new (ai (l:=[nS,nS]) rfl rfl rfl) fun g7 h O=>?_|refine O.bF (ai (l:=[nS,nS]) rfl rfl rfl) fun g7 h O=>?_);refine gH ?_
   refine O.stC 2 (.head _) [((ah 1 n8) r6.1.out),((ah 1 n8) r6.1.next)] fun h O=>?_;refine gX ?_
   refine br hm (fun hm=>?_) fun hm=>?_
   ·refine gX ?_
    refine ldA (O.at (.tail _ (.tail _ (.head _)))) ?_;refine gH ?_
    first|refine⟨.inr (.inr (bj rfl (O.at (.tail _ (.tail _ (.head _)))) rfl rfl (lbE rfl) rfl)),?_⟩|refine⟨.inr (.inl (by kernel_rfl)),?_⟩
    refine gX ?_
    refine ldA (O.at (.tail _ (.head _))) ?_;refine gH ?_
    first|refine⟨.inr (.inr (bj rfl (O.at (.tail _ (.head _))) rfl rfl (lbE rfl) rfl)),?_⟩|refine⟨.inr (.inl (by kernel_rfl)),?_⟩
    refine gX ?_
    refine O.kO 2 (.tail _ (.tail _ (.head _))) fun h hext O=>?_;conv=>whnf
    refine⟨.inr hext,?_⟩;refine gH ?_
    refine O.kO 2 (.tail _ (.head _)) fun h hext O=>?_;conv=>whnf
    refine⟨.inr hext,?_⟩;refine gX ?_
    refine⟨_,aL rfl rfl (O.at (.tail _ (.tail _ (.head _)))) rfl rfl (lbE rfl) rfl,?_⟩;conv=>whnf
    refine⟨_,aL rfl rfl (O.at (.tail _ (.head _))) rfl rfl (lbE rfl) rfl,?_⟩;conv=>whnf
    exact⟨((⟨[],[]⟩:Rsp),(⟨[],[]⟩:Rsp),[],r6.2.2),hm,O.ext,fun h2 F=>VLe.tup (LLe.cons (VLe.agg (LLe.cons (VLe.nil _ _) (LLe.cons (VLe.nil _ _) (LLe.nil _)))) (LLe.cons (VLe.agg (LLe.cons (VLe.nil _ _) (LLe.cons (VLe.nil _ _) (LLe.nil _)))) (LLe.cons (VLe.nil _ _) (LLe.cons (VLe.refl _ _) (LLe.nil _)))))⟩
   ·refine gX ?_
    refine ca (eF hm O.has) fun r9 hm=>?_;refine gH ?_
    refine O.stC 2 (.tail _ (.tail _ (.head _))) [((ah 1 n8) r9.1.out),((ah 1 n8) r9.1.next)] fun h O=>?_;refine gX ?_
    refine br hm (fun hm=>?_) fun hm=>?_
    ·refine gX ?_
     exact False.elim hm
    ·apply Cs;conv=>whnf
     apply Cs;conv=>whnf
     apply Cs;refine gH ?_
     refine jn hm 95 [4,5,7,8,9,13] (fun s=>s) (fun v10 h=>Own vars h0 [(sC g1 [((ah 1 n8) r9.1.out),((ah 1 n8) r9.1.next)]),(sC g3 [nS,nS])] h) (fun v10=>[(14,(i64 v10))]) (fun hm=>?_) ?_
     ·refine gX ?_
      refine br hm (fun hm=>?_) fun hm=>?_
      ·refine gX ?_
       refine dF ?_
       refine gX ?_
       refine atF hm fun x12 hx12 hm=>?_;refine gH ?_
       refine dF ?_
       refine gX ?_
       obtain⟨j14,hz,x13,hx13,hm⟩:=hm
       refine tz (s:=1) (enc:=i64) (j:=j14) rfl rfl rfl (congrArg (Value.int .i64) hz) hx13 ?_;refine gH ?_
       exact jx x13 hm (O.sel [2,1] (by decide))
      ·refine gX ?_
       exact jx p1.line.node hm (O.sel [2,1] (by decide))
     ·clear hm;rintro v10 base h hm O
      conv=>whnf
      apply Cs;conv=>whnf
      refine CodeS.lN ?_;refine gH ?_
      refine atF hm fun x15 hx15 hm=>?_;refine gH ?_
      refine Db hm fun hm=>?_;refine gH ?_
      refine fg Tryz.func105 ?_;refine gX ?_
      (first|refine O.new (ai (l:=[(n8 0)]) rfl rfl rfl) fun g16 h O=>?_|refine O.bF (ai (l:=[(n8 0)]) rfl rfl rfl) fun g16 h O=>?_);refine gH ?_
      refine O.stC 1 (.head _) [(n8 5)] fun h O=>?_;refine gH ?_
      refine jn hm 7 [3] (fun s=>s) (fun v18 h=>Own vars h0 [(sC g16 [(n8 v18)]),(sC g1 [((ah 1 n8) r9.1.out),((ah 1 n8) r9.1.next)]),(sC g3 [nS,nS])] h) (fun v18=>[]) (fun hm=>?_) ?_
      ·refine gX ?_
       refine br hm (fun hm=>?_) fun hm=>?_
       ·refine gX ?_
        refine O.stC 1 (.head _) [(n8 7)] fun h O=>?_;refine gH ?_
        exact jx 7 hm O
       ·refine gX ?_
        exact jx 5 hm O
      ·clear hm;rintro v18 base h hm O
       refine gX ?_
       (first|refine O.new (ai (l:=[(n8 0)]) rfl rfl rfl) fun g20 h O=>?_|refine O.bF (ai (l:=[(n8 0)]) rfl rfl rfl) fun g20 h O=>?_);refine gH ?_
       (first|refine O.new (ai (l:=[.nilFunc]) rfl rfl rfl) fun g22 h O=>?_|refine O.bF (ai (l:=[.nilFunc]) rfl rfl rfl) fun g22 h O=>?_);refine gH ?_
       refine O.stC 1 (.tail _ (.head _)) [(n8 x15)] fun h O=>?_;refine gH ?_
       refine O.stC 1 (.head _) [(clo 130 [(pG g16)])] fun h O=>?_;refine gX ?_
       refine fg Tryz.func106 ?_;refine gX ?_
       refine fz ?_;refine gH ?_
       refine fz ?_;refine gH ?_
       (first|refine O.new (jo rfl) fun g24 h O=>?_|refine O.bF (jo rfl) fun g24 h O=>?_);refine gH ?_
       refine gX ?_
       (first|refine O.new (jo rfl) fun g26 h O=>?_|refine O.bF (jo rfl) fun g26 h O=>?_);refine gH ?_
       refine gX ?_
       refine br hm (fun hm=>?_) fun hm=>?_
       ·refine gX ?_
        refine O.stC 1 (.head _) (cy p0 nS (clo 133 [(FP (au p1.line)),(pG g24)]) (clo 132 [])) fun h O=>?_;refine gX ?_
        refine fg Tryz.func108 ?_;refine gX ?_
        refine fz ?_;refine gH ?_
        (first|refine O.new (ai (l:=[nS,nS]) rfl rfl rfl) fun g28 h O=>?_|refine O.bF (ai (l:=[nS,nS]) rfl rfl rfl) fun g28 h O=>?_);refine gH ?_
        refine gX ?_
        refine O.mkL (enc:=n8) 1 1 0 hm fun g30 h O hm=>?_;refine gH ?_
        refine O.stC 1 (.tail _ (.tail _ (.head _))) (cy p0 (.slice (some ⟨g30,0,none⟩) p0.nodes.length p0.nodes.length) (clo 133 [(FP (au p1.line)),(pG g24)]) (clo 132 [])) fun h O=>?_;refine gH ?_
        apply Cs;conv=>whnf
        refine CodeS.CL O (.tail _ (.tail _ (.head _))) 0 rfl rfl fun h O=>?_;refine gX ?_
        refine ca (bX hm O.has) fun r32 hm=>?_;refine gH ?_
        refine jn hm 189 [0,3,4,5] (fun s=>s) (fun v33 h=>Own vars h0 [(sC g30 (flatC (v33.map n8))),(sC g24 [(clo 107 [(pG g22),(pG g20)])]),(sC g22 [(clo 130 [(pG g16)])]),(sC g16 [(n8 v18)]),(sC g20 [(n8 x15)]),(sC g28 [nS,nS]),(sC g1 [((ah 1 n8) r9.1.out),((ah 1 n8) r9.1.next)]),(sC g3 [nS,nS]),(sR g26 (cy p0 (.slice (some ⟨g30,0,none⟩) p0.nodes.length p0.nodes.length) (clo 133 [(FP (au p1.line)),(pG g24)]) (clo 132 [])))] h) (fun v33=>[]) (fun hm=>?_) ?_
        ·refine gX ?_
         refine ca (dK hm O.has) fun r35 hm=>?_;refine gX ?_
         refine lw 189 [0,3,4,5,41,42] (σ:=((List Nat)×Nat)) (fun s=>s) (fun (v36,v37) h=>Own vars h0 [(sC g30 (flatC (v36.map n8))),(sC g24 [(clo 107 [(pG g22),(pG g20)])]),(sC g22 [(clo 130 [(pG g16)])]),(sC g16 [(n8 v18)]),(sC g20 [(n8 x15)]),(sC g28 [nS,nS]),(sC g1 [((ah 1 n8) r9.1.out),((ah 1 n8) r9.1.next)]),(sC g3 [nS,nS]),(sR g26 (cy p0 (.slice (some ⟨g30,0,none⟩) p0.nodes.length p0.nodes.length) (clo 133 [(FP (au p1.line)),(pG g24)]) (clo 132 [])))] h) (fun (v36,v37)=>[(43,(i64 v37))]) ((List.replicate p0.nodes.length (0:Nat)),0) hm (O.sel [0,3,4,6,5,1,7,8,2] (by decide)) ?_
         clear hm;rintro⟨v36,v37⟩ nx38 base h hm O
         refine gX ?_
         refine br hm (fun hm=>?_) fun hm=>?_
         ·refine gX ?_
          refine atF hm fun x39 hx39 hm=>?_;refine gX ?_
          refine dF ?_
          refine gX ?_
          refine dF ?_
          refine gX ?_
          refine atF hm fun x40 hx40 hm=>?_;refine gH ?_
          refine ix 1 hm fun x41 hx41 hm=>?_;refine gH ?_
          refine O.stE 1 (.head _) hx41 x40 fun h O=>?_;refine gH ?_
          (first|refine⟨.inr (.inr (ae rfl (O.at (.head _)) rfl rfl)),?_⟩|refine⟨.inr (.inr (ae rfl (O.at (.tail _ (.head _))) rfl rfl)),?_⟩|refine⟨.inr (.inr (ae rfl (O.at (.tail _ (.tail _ (.head _)))) rfl rfl)),?_⟩|refine⟨.inr (.inr (ae rfl (O.at (.tail _ (.tail _ (.tail _ (.head _))))) rfl rfl)),?_⟩|refine⟨.inr (.inr (ae rfl (O.at (.tail _ (.tail _ (.tail _ (.tail _ (.head _)))))) rfl rfl)),?_⟩|refine⟨.inr (.inr (ae rfl (O.at (.tail _ (.tail _ (.tail _ (.tail _ (.tail _ (.head _))))))) rfl rfl)),?_⟩|refine⟨.inr (.inr (ae rfl (O.at (.tail _ (.tail _ (.tail _ (.tail _ (.tail _ (.tail _ (.head _)))))))) rfl rfl)),?_⟩|refine⟨.inl (Ext.refl _),?_⟩|refine⟨.inr (.inr rfl),?_⟩|refine⟨.inr (by kernel_rfl),?_⟩|refine⟨.inl (by kernel_rfl),?_⟩|refine id ?_);refine gH ?_
          refine gX ?_
          refine aR hm fun hm=>?_;refine gH ?_
          exact jx ((v36.set x39 x40),(v37+1)) hm O
         ·refine gX ?_
          exact jx v36 hm O
        ·clear hm;rintro v33 base h hm O
         conv=>whnf
         refine jn hm 189 [0,4,5] (fun s=>s) (fun v42 h=>Own vars h0 [(sC g30 (flatC (v42.map n8))),(sC g24 [(clo 107 [(pG g22),(pG g20)])]),(sC g22 [(clo 130 [(pG g16)])]),(sC g16 [(n8 v18)]),(sC g20 [(n8 x15)]),(sC g28 [nS,nS]),(sC g1 [((ah 1 n8) r9.1.out),((ah 1 n8) r9.1.next)]),(sC g3 [nS,nS]),(sR g26 (cy p0 (.slice (some ⟨g30,0,none⟩) p0.nodes.length p0.nodes.length) (clo 133 [(FP (au p1.line)),(pG g24)]) (clo 132 [])))] h) (fun v42=>[]) (fun hm=>?_) ?_
         ·refine gX ?_
          refine lw 189 [0,3,4,5,60,61] (σ:=((List Nat)×Nat)) (fun s=>s) (fun (v44,v45) h=>Own vars h0 [(sC g30 (flatC (v44.map n8))),(sC g24 [(clo 107 [(pG g22),(pG g20)])]),(sC g22 [(clo 130 [(pG g16)])]),(sC g16 [(n8 v18)]),(sC g20 [(n8 x15)]),(sC g28 [nS,nS]),(sC g1 [((ah 1 n8) r9.1.out),((ah 1 n8) r9.1.next)]),(sC g3 [nS,nS]),(sR g26 (cy p0 (.slice (some ⟨g30,0,none⟩) p0.nodes.length p0.nodes.length) (clo 133 [(FP (au p1.line)),(pG g24)]) (clo 132 [])))] h) (fun (v44,v45)=>[(62,(i64 v45))]) (v33,0) hm O ?_
          clear hm;rintro⟨v44,v45⟩ nx46 base h hm O
          refine gX ?_
          refine br hm (fun hm=>?_) fun hm=>?_
          ·refine gX ?_
           refine atF hm fun x47 hx47 hm=>?_;refine gX ?_
           refine dF ?_
           refine gX ?_
           refine dF ?_
           refine gX ?_
           refine atF hm fun x48 hx48 hm=>?_;refine gH ?_
           refine ix 1 hm fun x49 hx49 hm=>?_;refine gH ?_
           refine O.stE 1 (.head _) hx49 x48 fun h O=>?_;refine gH ?_
           (first|refine⟨.inr (.inr (ae rfl (O.at (.head _)) rfl rfl)),?_⟩|refine⟨.inr (.inr (ae rfl (O.at (.tail _ (.head _))) rfl rfl)),?_⟩|refine⟨.inr (.inr (ae rfl (O.at (.tail _ (.tail _ (.head _)))) rfl rfl)),?_⟩|refine⟨.inr (.inr (ae rfl (O.at (.tail _ (.tail _ (.tail _ (.head _))))) rfl rfl)),?_⟩|refine⟨.inr (.inr (ae rfl (O.at (.tail _ (.tail _ (.tail _ (.tail _ (.head _)))))) rfl rfl)),?_⟩|refine⟨.inr (.inr (ae rfl (O.at (.tail _ (.tail _ (.tail _ (.tail _ (.tail _ (.head _))))))) rfl rfl)),?_⟩|refine⟨.inr (.inr (ae rfl (O.at (.tail _ (.tail _ (.tail _ (.tail _ (.tail _ (.tail _ (.head _)))))))) rfl rfl)),?_⟩|refine⟨.inl (Ext.refl _),?_⟩|refine⟨.inr (.inr rfl),?_⟩|refine⟨.inr (by kernel_rfl),?_⟩|refine⟨.inl (by kernel_rfl),?_⟩|refine id ?_);refine gH ?_
           refine gX ?_
           refine aR hm fun hm=>?_;refine gH ?_
           exact jx ((v44.set x47 x48),(v45+1)) hm O
          ·refine gX ?_
           exact jx v44 hm O
         ·clear hm;rintro v42 base h hm O
          refine gX ?_
          refine ca (cm hm O.has) fun r50 hm=>?_;refine gH ?_
          apply Cs;conv=>whnf
          apply Cs;refine gH ?_
          refine jn hm 189 [0,4,5] (fun s=>s) (fun v51 h=>Own vars h0 [(sC g30 (flatC (v51.map n8))),(sC g24 [(clo 107 [(pG g22),(pG g20)])]),(sC g22 [(clo 130 [(pG g16)])]),(sC g16 [(n8 v18)]),(sC g20 [(n8 x15)]),(sC g28 [nS,nS]),(sC g1 [((ah 1 n8) r9.1.out),((ah 1 n8) r9.1.next)]),(sC g3 [nS,nS]),(sR g26 (cy p0 (.slice (some ⟨g30,0,none⟩) p0.nodes.length p0.nodes.length) (clo 133 [(FP (au p1.line)),(pG g24)]) (clo 132 [])))] h) (fun v51=>[]) (fun hm=>?_) ?_
          ·refine gX ?_
           refine lw 189 [0,4,5,12,89,90] (σ:=((List Nat)×Nat)) (fun s=>s) (fun (v53,v54) h=>Own vars h0 [(sC g30 (flatC (v53.map n8))),(sC g24 [(clo 107 [(pG g22),(pG g20)])]),(sC g22 [(clo 130 [(pG g16)])]),(sC g16 [(n8 v18)]),(sC g20 [(n8 x15)]),(sC g28 [nS,nS]),(sC g1 [((ah 1 n8) r9.1.out),((ah 1 n8) r9.1.next)]),(sC g3 [nS,nS]),(sR g26 (cy p0 (.slice (some ⟨g30,0,none⟩) p0.nodes.length p0.nodes.length) (clo 133 [(FP (au p1.line)),(pG g24)]) (clo 132 [])))] h) (fun (v53,v54)=>[(91,(i64 v54))]) (v42,0) hm O ?_
           clear hm;rintro⟨v53,v54⟩ nx55 base h hm O
           refine gX ?_
           refine br hm (fun hm=>?_) fun hm=>?_
           ·refine gX ?_
            refine atF hm fun x56 hx56 hm=>?_;refine gH ?_
            refine jn hm 189 [0,4,5,12,14,89,90,91] (fun s=>s) (fun v57 h=>Own vars h0 [(sC g30 (flatC (v57.map n8))),(sC g24 [(clo 107 [(pG g22),(pG g20)])]),(sC g22 [(clo 130 [(pG g16)])]),(sC g16 [(n8 v18)]),(sC g20 [(n8 x15)]),(sC g28 [nS,nS]),(sC g1 [((ah 1 n8) r9.1.out),((ah 1 n8) r9.1.next)]),(sC g3 [nS,nS]),(sR g26 (cy p0 (.slice (some ⟨g30,0,none⟩) p0.nodes.length p0.nodes.length) (clo 133 [(FP (au p1.line)),(pG g24)]) (clo 132 [])))] h) (fun v57=>[]) (fun hm=>?_) ?_
            ·refine gX ?_
             refine atF hm fun x59 hx59 hm=>?_;refine gH ?_
             refine jn hm 189 [0,4,5,12,14,89,90,91] (fun s=>s) (fun v60 h=>Own vars h0 [(sC g30 (flatC (v53.map n8))),(sC g24 [(clo 107 [(pG g22),(pG g20)])]),(sC g22 [(clo 130 [(pG g16)])]),(sC g16 [(n8 v18)]),(sC g20 [(n8 x15)]),(sC g28 [nS,nS]),(sC g1 [((ah 1 n8) r9.1.out),((ah 1 n8) r9.1.next)]),(sC g3 [nS,nS]),(sR g26 (cy p0 (.slice (some ⟨g30,0,none⟩) p0.nodes.length p0.nodes.length) (clo 133 [(FP (au p1.line)),(pG g24)]) (clo 132 [])))] h) (fun v60=>[(109,(.bool v60))]) (fun hm=>?_) ?_
             ·refine gX ?_
              refine br hm (fun hm=>?_) fun hm=>?_
              ·refine gX ?_
               exact jx (neN x59.kind 14) hm O
              ·refine gX ?_
               exact jx false hm O
             ·clear hm;rintro v60 base h hm O
              refine gX ?_
              refine br hm (fun hm=>?_) fun hm=>?_
              ·refine CodeS.lN ?_;refine gH ?_
               refine fg Tryz.func135 ?_;conv=>whnf
               apply Cs;conv=>whnf
               apply Cs;refine gH ?_
               apply Cs;conv=>whnf
               refine CodeS.lN ?_;refine gH ?_
               refine atF hm fun x62 hx62 hm=>?_;refine gH ?_
               refine fg Tryz.func136 ?_;conv=>whnf
               apply Cs;conv=>whnf
               apply Cs;refine gH ?_
               have O:=O.bc (.cells (flatC ((([]:List Nat)).map n8)) false)
               apply Cs;conv=>whnf
               apply Cs;refine gH ?_
               have O:=O.bc (.cells (flatC ((([]:List Nat)).map n8)) false)
               refine jn (σ:=(List Nat)×Option Nat) hm 42 [] (fun s=>s.1) (fun (v66,a65) h=>(a65=none->v66=[])/\Own vars h0 [(a65,.cells (flatC (v66.map n8)) false),(sC g1 [((ah 1 n8) r9.1.out),((ah 1 n8) r9.1.next)]),(sC g3 [nS,nS]),(sC g20 [(n8 x15)]),(sC g22 [(clo 130 [(pG g16)])]),(sC g16 [(n8 v18)]),(sR g26 (cy p0 (.slice (some ⟨g30,0,none⟩) p0.nodes.length p0.nodes.length) (clo 133 [(FP (au p1.line)),(pG g24)]) (clo 132 []))),(sC g30 (flatC (v53.map n8))),(sC g24 [(clo 107 [(pG g22),(pG g20)])]),(sC g28 [nS,nS])] h) (fun (v66,a65)=>[(5,(aj 1 a65 (v66.map n8)))]) (fun hm=>?_) ?_
               ·refine gX ?_
                refine atF hm fun x69 hx69 hm=>?_;refine gX ?_
                refine lw 42 [0,1,16,17] (σ:=((List Nat)×Nat)×Option Nat) (fun s=>s.1) (fun ((v71,v72),a70) h=>(a70=none->v71=[])/\Own vars h0 [(sC g30 (flatC (v53.map n8))),(sC g24 [(clo 107 [(pG g22),(pG g20)])]),(sC g22 [(clo 130 [(pG g16)])]),(sC g16 [(n8 v18)]),(sC g20 [(n8 x15)]),(a70,.cells (flatC (v71.map n8)) false),(sC g1 [((ah 1 n8) r9.1.out),((ah 1 n8) r9.1.next)]),(sC g3 [nS,nS]),(sR g26 (cy p0 (.slice (some ⟨g30,0,none⟩) p0.nodes.length p0.nodes.length) (clo 133 [(FP (au p1.line)),(pG g24)]) (clo 132 []))),(sC g28 [nS,nS])] h) (fun ((v71,v72),a70)=>[(5,(aj 1 a70 (v71.map n8))),(18,(i64 v72))]) ((([]:List Nat),0),none) hm ⟨(fun _=>rfl),(O.sel [2,3,4,5,6,0,8,9,10,7] (by decide))⟩ ?_
                clear hm;rintro⟨⟨v71,v72⟩,a70⟩ nx74 base h hm ⟨ha73,O⟩
                refine gX ?_
                refine br hm (fun hm=>?_) fun hm=>?_
                ·refine gX ?_
                 refine atF hm fun x75 hx75 hm=>?_;refine gX ?_
                 refine dF ?_
                 refine gX ?_
                 refine dF ?_
                 refine gX ?_
                 refine ix 1 hm fun x76 hx76 hm=>?_;refine gH ?_
                 refine⟨_,ae rfl (O.at (.head _)) rfl (cR (enc:=n8) (s:=1) (k:=0) (fun _=>rfl) hx76 rfl),?_⟩;refine gH ?_
                 refine fg Tryz.func132 ?_;refine gX ?_
                 (first|refine⟨.inr (.inr (ae rfl (O.at (.head _)) rfl rfl)),?_⟩|refine⟨.inr (.inr (ae rfl (O.at (.tail _ (.head _))) rfl rfl)),?_⟩|refine⟨.inr (.inr (ae rfl (O.at (.tail _ (.tail _ (.head _)))) rfl rfl)),?_⟩|refine⟨.inr (.inr (ae rfl (O.at (.tail _ (.tail _ (.tail _ (.head _))))) rfl rfl)),?_⟩|refine⟨.inr (.inr (ae rfl (O.at (.tail _ (.tail _ (.tail _ (.tail _ (.head _)))))) rfl rfl)),?_⟩|refine⟨.inr (.inr (ae rfl (O.at (.tail _ (.tail _ (.tail _ (.tail _ (.tail _ (.head _))))))) rfl rfl)),?_⟩|refine⟨.inr (.inr (ae rfl (O.at (.tail _ (.tail _ (.tail _ (.tail _ (.tail _ (.tail _ (.head _)))))))) rfl rfl)),?_⟩|refine⟨.inl (Ext.refl _),?_⟩|refine⟨.inr (.inr rfl),?_⟩|refine⟨.inr (by kernel_rfl),?_⟩|refine⟨.inl (by kernel_rfl),?_⟩|refine id ?_);refine gH ?_
                 refine O.dq (l:=([x76]:(List Nat))) (enc:=n8) (s:=1) (z:=(n8 0)) rfl rfl (by kernel_rfl) (by kernel_rfl) rfl rfl rfl rfl (fun _=>rfl) fun g77 h O=>?_;refine gH ?_
                 refine O.gB (enc:=n8) (l:=v71) (new:=([x76]:(List Nat))) (s:=1) (b:=1) (.tail _ (.tail _ (.tail _ (.tail _ (.tail _ (.tail _ (.head _))))))) ha73 rfl rfl rfl rfl rfl rfl rfl rfl (YOk.own (O.at (.head _)) rfl (fun _=>rfl) rfl) (fun _=>rfl) (fun _=>rfl) (by decide) hm.1 fun a79 h ha80 O=>?_;refine gH ?_
                 (first|refine⟨.inr (.inr (ae rfl (O.at (.head _)) rfl rfl)),?_⟩|refine⟨.inr (.inr (ae rfl (O.at (.tail _ (.head _))) rfl rfl)),?_⟩|refine⟨.inr (.inr (ae rfl (O.at (.tail _ (.tail _ (.head _)))) rfl rfl)),?_⟩|refine⟨.inr (.inr (ae rfl (O.at (.tail _ (.tail _ (.tail _ (.head _))))) rfl rfl)),?_⟩|refine⟨.inr (.inr (ae rfl (O.at (.tail _ (.tail _ (.tail _ (.tail _ (.head _)))))) rfl rfl)),?_⟩|refine⟨.inr (.inr (ae rfl (O.at (.tail _ (.tail _ (.tail _ (.tail _ (.tail _ (.head _))))))) rfl rfl)),?_⟩|refine⟨.inr (.inr (ae rfl (O.at (.tail _ (.tail _ (.tail _ (.tail _ (.tail _ (.tail _ (.head _)))))))) rfl rfl)),?_⟩|refine⟨.inl (Ext.refl _),?_⟩|refine⟨.inr (.inr rfl),?_⟩|refine⟨.inr (by kernel_rfl),?_⟩|refine⟨.inl (by kernel_rfl),?_⟩|refine id ?_);refine gH ?_
                 replace hm:=hm.2
                 refine gX ?_
                 refine aR hm fun hm=>?_;refine gH ?_
                 exact jx (((v71++([x76]:(List Nat))),(v72+1)),a79) hm ⟨ha80,(O.sel [1,2,3,4,5,6,7,8,9,10] (by decide))⟩
                ·refine gX ?_
                 exact jx (v71,a70) hm ⟨ha73,(O.sel [5,6,7,4,2,3,8,0,1,9] (by decide))⟩
               ·clear hm;rintro⟨v66,a65⟩ base h hm ⟨ha67,O⟩
                refine gX ?_
                refine CallD.Ep (fun _ hb=>gN hm hb) (fun _=>rJ rfl) Az O.has (fun h2 F=>(LLe.cons (VLe.refl _ _) (LLe.cons (O.iA F (Nat.zero_le _) (.head _) ha67 (fun _=>rfl)) (LLe.nil _)))) (by kernel_rfl) (fun r81 hm'=>?_);replace hm:=hm';refine gX ?_
                refine ix 1 hm fun x82 hx82 hm=>?_;refine gH ?_
                refine O.stE 1 (.tail _ (.tail _ (.tail _ (.tail _ (.tail _ (.tail _ (.tail _ (.head _)))))))) hx82 r81 fun h O=>?_;refine gH ?_
                exact jx (v53.set x56 r81) hm (O.sel [7,8,4,5,3,9,1,2,6] (by decide))
              ·refine gX ?_
               exact jx v53 hm O
            ·clear hm;rintro v57 base h hm O
             refine gX ?_
             refine dF ?_
             refine gX ?_
             refine dF ?_
             refine gX ?_
             refine dF ?_
             refine gX ?_
             refine ix 1 hm fun x83 hx83 hm=>?_;refine gH ?_
             refine⟨_,ae rfl (O.at (.head _)) rfl (cR (enc:=n8) (s:=1) (k:=0) (fun _=>rfl) hx83 rfl),?_⟩;refine gH ?_
             refine fg Tryz.func133 ?_;refine gX ?_
             refine br hm (fun hm=>?_) fun hm=>?_
             ·refine gX ?_
              refine fg Tryz.func107 ?_;refine gX ?_
              refine ldO (O.at (.tail _ (.tail _ (.tail _ (.tail _ (.head _)))))) ?_;refine gH ?_
              refine fg Tryz.func130 ?_;refine gX ?_
              refine ldO (O.at (.tail _ (.tail _ (.tail _ (.head _))))) ?_;refine gH ?_
              refine fz ?_;refine gH ?_
              refine ca (gN hm O.has) fun r84 hm=>?_;refine gX ?_
              (first|refine⟨.inr (.inr (ae rfl (O.at (.head _)) rfl rfl)),?_⟩|refine⟨.inr (.inr (ae rfl (O.at (.tail _ (.head _))) rfl rfl)),?_⟩|refine⟨.inr (.inr (ae rfl (O.at (.tail _ (.tail _ (.head _)))) rfl rfl)),?_⟩|refine⟨.inr (.inr (ae rfl (O.at (.tail _ (.tail _ (.tail _ (.head _))))) rfl rfl)),?_⟩|refine⟨.inr (.inr (ae rfl (O.at (.tail _ (.tail _ (.tail _ (.tail _ (.head _)))))) rfl rfl)),?_⟩|refine⟨.inr (.inr (ae rfl (O.at (.tail _ (.tail _ (.tail _ (.tail _ (.tail _ (.head _))))))) rfl rfl)),?_⟩|refine⟨.inr (.inr (ae rfl (O.at (.tail _ (.tail _ (.tail _ (.tail _ (.tail _ (.tail _ (.head _)))))))) rfl rfl)),?_⟩|refine⟨.inl (Ext.refl _),?_⟩|refine⟨.inr (.inr rfl),?_⟩|refine⟨.inr (by kernel_rfl),?_⟩|refine⟨.inl (by kernel_rfl),?_⟩|refine id ?_);refine gH ?_
              refine ix 1 hm fun x85 hx85 hm=>?_;refine gH ?_
              refine O.stE 1 (.head _) hx85 r84 fun h O=>?_;refine gH ?_
              (first|refine⟨.inr (.inr (ae rfl (O.at (.head _)) rfl rfl)),?_⟩|refine⟨.inr (.inr (ae rfl (O.at (.tail _ (.head _))) rfl rfl)),?_⟩|refine⟨.inr (.inr (ae rfl (O.at (.tail _ (.tail _ (.head _)))) rfl rfl)),?_⟩|refine⟨.inr (.inr (ae rfl (O.at (.tail _ (.tail _ (.tail _ (.head _))))) rfl rfl)),?_⟩|refine⟨.inr (.inr (ae rfl (O.at (.tail _ (.tail _ (.tail _ (.tail _ (.head _)))))) rfl rfl)),?_⟩|refine⟨.inr (.inr (ae rfl (O.at (.tail _ (.tail _ (.tail _ (.tail _ (.tail _ (.head _))))))) rfl rfl)),?_⟩|refine⟨.inr (.inr (ae rfl (O.at (.tail _ (.tail _ (.tail _ (.tail _ (.tail _ (.tail _ (.head _)))))))) rfl rfl)),?_⟩|refine⟨.inl (Ext.refl _),?_⟩|refine⟨.inr (.inr rfl),?_⟩|refine⟨.inr (by kernel_rfl),?_⟩|refine⟨.inl (by kernel_rfl),?_⟩|refine id ?_);refine gH ?_
              refine gX ?_
              refine aR hm fun hm=>?_;refine gH ?_
              exact jx ((v57.set x56 r84),(v54+1)) hm O
             ·refine gX ?_
              (first|refine⟨.inr (.inr (ae rfl (O.at (.head _)) rfl rfl)),?_⟩|refine⟨.inr (.inr (ae rfl (O.at (.tail _ (.head _))) rfl rfl)),?_⟩|refine⟨.inr (.inr (ae rfl (O.at (.tail _ (.tail _ (.head _)))) rfl rfl)),?_⟩|refine⟨.inr (.inr (ae rfl (O.at (.tail _ (.tail _ (.tail _ (.head _))))) rfl rfl)),?_⟩|refine⟨.inr (.inr (ae rfl (O.at (.tail _ (.tail _ (.tail _ (.tail _ (.head _)))))) rfl rfl)),?_⟩|refine⟨.inr (.inr (ae rfl (O.at (.tail _ (.tail _ (.tail _ (.tail _ (.tail _ (.head _))))))) rfl rfl)),?_⟩|refine⟨.inr (.inr (ae rfl (O.at (.tail _ (.tail _ (.tail _ (.tail _ (.tail _ (.tail _ (.head _)))))))) rfl rfl)),?_⟩|refine⟨.inl (Ext.refl _),?_⟩|refine⟨.inr (.inr rfl),?_⟩|refine⟨.inr (by kernel_rfl),?_⟩|refine⟨.inl (by kernel_rfl),?_⟩|refine id ?_);refine gH ?_
              refine ix 1 hm fun x86 hx86 hm=>?_;refine gH ?_
              refine O.stE 1 (.head _) hx86 x83 fun h O=>?_;refine gH ?_
              (first|refine⟨.inr (.inr (ae rfl (O.at (.head _)) rfl rfl)),?_⟩|refine⟨.inr (.inr (ae rfl (O.at (.tail _ (.head _))) rfl rfl)),?_⟩|refine⟨.inr (.inr (ae rfl (O.at (.tail _ (.tail _ (.head _)))) rfl rfl)),?_⟩|refine⟨.inr (.inr (ae rfl (O.at (.tail _ (.tail _ (.tail _ (.head _))))) rfl rfl)),?_⟩|refine⟨.inr (.inr (ae rfl (O.at (.tail _ (.tail _ (.tail _ (.tail _ (.head _)))))) rfl rfl)),?_⟩|refine⟨.inr (.inr (ae rfl (O.at (.tail _ (.tail _ (.tail _ (.tail _ (.tail _ (.head _))))))) rfl rfl)),?_⟩|refine⟨.inr (.inr (ae rfl (O.at (.tail _ (.tail _ (.tail _ (.tail _ (.tail _ (.tail _ (.head _)))))))) rfl rfl)),?_⟩|refine⟨.inl (Ext.refl _),?_⟩|refine⟨.inr (.inr rfl),?_⟩|refine⟨.inr (by kernel_rfl),?_⟩|refine⟨.inl (by kernel_rfl),?_⟩|refine id ?_);refine gH ?_
              refine gX ?_
              refine aR hm fun hm=>?_;refine gH ?_
              exact jx ((v57.set x56 x83),(v54+1)) hm O
           ·refine gX ?_
            exact jx v53 hm O
          ·clear hm;rintro v51 base h hm O
           refine gX ?_
           have O:=O.bc (.cells (flatC ((([]:List Nat)).map n8)) false)
           have O:=O.bc (.cells (flatC ((([]:List Nat)).map n8)) false)
           (first|refine O.new (ai (l:=[nS,nS]) rfl rfl rfl) fun g87 h O=>?_|refine O.bF (ai (l:=[nS,nS]) rfl rfl rfl) fun g87 h O=>?_);refine gH ?_
           refine jn (σ:=(List Nat)×Option Nat) hm 189 [0,4,5,16] (fun s=>s.1) (fun (v92,a91) h=>(a91=none->v92=[])/\Own vars h0 [(sC g30 (flatC (v51.map n8))),(sC g24 [(clo 107 [(pG g22),(pG g20)])]),(sC g22 [(clo 130 [(pG g16)])]),(sC g16 [(n8 v18)]),(sC g20 [(n8 x15)]),(sC g28 [nS,nS]),(sC g87 [(aj 1 a91 (v92.map n8)),(aj 1 none (([]:List Nat).map n8))]),(a91,.cells (flatC (v92.map n8)) false),(none,.cells (flatC (([]:List Nat).map n8)) false),(sC g1 [((ah 1 n8) r9.1.out),((ah 1 n8) r9.1.next)]),(sC g3 [nS,nS]),(sR g26 (cy p0 (.slice (some ⟨g30,0,none⟩) p0.nodes.length p0.nodes.length) (clo 133 [(FP (au p1.line)),(pG g24)]) (clo 132 [])))] h) (fun (v92,a91)=>[]) (fun hm=>?_) ?_
           ·refine gX ?_
            refine lw 189 [0,4,5,16,143,144] (σ:=((List Nat)×Nat)×Option Nat) (fun s=>s.1) (fun ((v96,v97),a95) h=>(a95=none->v96=[])/\Own vars h0 [(sC g30 (flatC (v51.map n8))),(sC g24 [(clo 107 [(pG g22),(pG g20)])]),(sC g22 [(clo 130 [(pG g16)])]),(sC g16 [(n8 v18)]),(sC g20 [(n8 x15)]),(sC g28 [nS,nS]),(sC g87 [(aj 1 a95 (v96.map n8)),(aj 1 none (([]:List Nat).map n8))]),(a95,.cells (flatC (v96.map n8)) false),(none,.cells (flatC (([]:List Nat).map n8)) false),(sC g1 [((ah 1 n8) r9.1.out),((ah 1 n8) r9.1.next)]),(sC g3 [nS,nS]),(sR g26 (cy p0 (.slice (some ⟨g30,0,none⟩) p0.nodes.length p0.nodes.length) (clo 133 [(FP (au p1.line)),(pG g24)]) (clo 132 [])))] h) (fun ((v96,v97),a95)=>[(145,(i64 v97))]) ((([]:List Nat),0),none) hm ⟨(fun _=>rfl),(O.sel [3,4,5,6,7,8,0,2,1,9,10,11] (by decide))⟩ ?_
            clear hm;rintro⟨⟨v96,v97⟩,a95⟩ nx99 base h hm ⟨ha98,O⟩
            refine gX ?_
            refine br hm (fun hm=>?_) fun hm=>?_
            ·refine gX ?_
             refine atF hm fun x100 hx100 hm=>?_;refine gX ?_
             refine ldO (O.at (.tail _ (.tail _ (.tail _ (.tail _ (.tail _ (.tail _ (.head _)))))))) ?_;refine gH ?_
             first|refine⟨.inr (.inr (ae rfl (O.at (.tail _ (.tail _ (.tail _ (.tail _ (.tail _ (.tail _ (.head _)))))))) rfl rfl)),?_⟩|refine⟨.inr (.inl (by kernel_rfl)),?_⟩
             refine gX ?_
             refine dF ?_
             refine gX ?_
             refine ix 1 hm fun x101 hx101 hm=>?_;refine gH ?_
             refine⟨_,ae rfl (O.at (.head _)) rfl (cR (enc:=n8) (s:=1) (k:=0) (fun _=>rfl) hx101 rfl),?_⟩;refine gH ?_
             refine O.dq (l:=([x101]:(List Nat))) (enc:=n8) (s:=1) (z:=(n8 0)) rfl rfl (by kernel_rfl) (by kernel_rfl) rfl rfl rfl rfl (fun _=>rfl) fun g102 h O=>?_;refine gH ?_
             refine O.gB (enc:=n8) (l:=v96) (new:=([x101]:(List Nat))) (s:=1) (b:=1) (.tail _ (.tail _ (.tail _ (.tail _ (.tail _ (.tail _ (.tail _ (.tail _ (.head _))))))))) ha98 rfl rfl rfl rfl rfl rfl rfl rfl (YOk.own (O.at (.head _)) rfl (fun _=>rfl) rfl) (fun _=>rfl) (fun _=>rfl) (by decide) hm.1 fun a104 h ha105 O=>?_;refine gH ?_
             (first|refine⟨.inr (.inr (ae rfl (O.at (.head _)) rfl rfl)),?_⟩|refine⟨.inr (.inr (ae rfl (O.at (.tail _ (.head _))) rfl rfl)),?_⟩|refine⟨.inr (.inr (ae rfl (O.at (.tail _ (.tail _ (.head _)))) rfl rfl)),?_⟩|refine⟨.inr (.inr (ae rfl (O.at (.tail _ (.tail _ (.tail _ (.head _))))) rfl rfl)),?_⟩|refine⟨.inr (.inr (ae rfl (O.at (.tail _ (.tail _ (.tail _ (.tail _ (.head _)))))) rfl rfl)),?_⟩|refine⟨.inr (.inr (ae rfl (O.at (.tail _ (.tail _ (.tail _ (.tail _ (.tail _ (.head _))))))) rfl rfl)),?_⟩|refine⟨.inr (.inr (ae rfl (O.at (.tail _ (.tail _ (.tail _ (.tail _ (.tail _ (.tail _ (.head _)))))))) rfl rfl)),?_⟩|refine⟨.inl (Ext.refl _),?_⟩|refine⟨.inr (.inr rfl),?_⟩|refine⟨.inr (by kernel_rfl),?_⟩|refine⟨.inl (by kernel_rfl),?_⟩|refine id ?_);refine gH ?_
             replace hm:=hm.2
             refine O.stC 1 (.tail _ (.tail _ (.tail _ (.tail _ (.tail _ (.tail _ (.tail _ (.head _)))))))) [(aj 1 a104 ((v96++([x101]:(List Nat))).map n8)),(aj 1 none (([]:List Nat).map n8))] fun h O=>?_;refine gH ?_
             (first|refine⟨.inr (.inr (ae rfl (O.at (.head _)) rfl rfl)),?_⟩|refine⟨.inr (.inr (ae rfl (O.at (.tail _ (.head _))) rfl rfl)),?_⟩|refine⟨.inr (.inr (ae rfl (O.at (.tail _ (.tail _ (.head _)))) rfl rfl)),?_⟩|refine⟨.inr (.inr (ae rfl (O.at (.tail _ (.tail _ (.tail _ (.head _))))) rfl rfl)),?_⟩|refine⟨.inr (.inr (ae rfl (O.at (.tail _ (.tail _ (.tail _ (.tail _ (.head _)))))) rfl rfl)),?_⟩|refine⟨.inr (.inr (ae rfl (O.at (.tail _ (.tail _ (.tail _ (.tail _ (.tail _ (.head _))))))) rfl rfl)),?_⟩|refine⟨.inr (.inr (ae rfl (O.at (.tail _ (.tail _ (.tail _ (.tail _ (.tail _ (.tail _ (.head _)))))))) rfl rfl)),?_⟩|refine⟨.inl (Ext.refl _),?_⟩|refine⟨.inr (.inr rfl),?_⟩|refine⟨.inr (by kernel_rfl),?_⟩|refine⟨.inl (by kernel_rfl),?_⟩|refine id ?_);refine gH ?_
             refine gX ?_
             refine aR hm fun hm=>?_;refine gH ?_
             exact jx (((v96++([x101]:(List Nat))),(v97+1)),a104) hm ⟨ha105,(O.sel [1,2,3,4,5,6,7,8,9,10,11,12] (by decide))⟩
            ·refine gX ?_
             exact jx (v96,a95) hm ⟨ha98,O⟩
           ·clear hm;rintro⟨v92,a91⟩ base h hm ⟨ha93,O⟩
            conv=>whnf
            refine jn (σ:=(List Nat)×Option Nat) hm 189 [4,16] (fun s=>s.1) (fun (v107,a106) h=>(a91=none->v92=[])/\(a106=none->v107=[])/\Own vars h0 [(sC g28 [nS,nS]),(sC g87 [(aj 1 a91 (v92.map n8)),(aj 1 a106 (v107.map n8))]),(a91,.cells (flatC (v92.map n8)) false),(a106,.cells (flatC (v107.map n8)) false),(sC g1 [((ah 1 n8) r9.1.out),((ah 1 n8) r9.1.next)]),(sC g3 [nS,nS]),(sC g20 [(n8 x15)]),(sC g22 [(clo 130 [(pG g16)])]),(sC g16 [(n8 v18)]),(sR g26 (cy p0 (.slice (some ⟨g30,0,none⟩) p0.nodes.length p0.nodes.length) (clo 133 [(FP (au p1.line)),(pG g24)]) (clo 132 []))),(sC g30 (flatC (v51.map n8))),(sC g24 [(clo 107 [(pG g22),(pG g20)])])] h) (fun (v107,a106)=>[]) (fun hm=>?_) ?_
            ·refine gX ?_
             refine lw 189 [0,4,16,162,163] (σ:=((List Nat)×Nat)×Option Nat) (fun s=>s.1) (fun ((v112,v113),a111) h=>(a91=none->v92=[])/\(a111=none->v112=[])/\Own vars h0 [(sC g30 (flatC (v51.map n8))),(sC g24 [(clo 107 [(pG g22),(pG g20)])]),(sC g22 [(clo 130 [(pG g16)])]),(sC g16 [(n8 v18)]),(sC g20 [(n8 x15)]),(sC g28 [nS,nS]),(sC g87 [(aj 1 a91 (v92.map n8)),(aj 1 a111 (v112.map n8))]),(a91,.cells (flatC (v92.map n8)) false),(a111,.cells (flatC (v112.map n8)) false),(sC g1 [((ah 1 n8) r9.1.out),((ah 1 n8) r9.1.next)]),(sC g3 [nS,nS]),(sR g26 (cy p0 (.slice (some ⟨g30,0,none⟩) p0.nodes.length p0.nodes.length) (clo 133 [(FP (au p1.line)),(pG g24)]) (clo 132 [])))] h) (fun ((v112,v113),a111)=>[(164,(i64 v113))]) ((([]:List Nat),0),none) hm ⟨ha93,(fun _=>rfl),O⟩ ?_
             clear hm;rintro⟨⟨v112,v113⟩,a111⟩ nx116 base h hm ⟨ha114,ha115,O⟩
             refine gX ?_
             refine br hm (fun hm=>?_) fun hm=>?_
             ·refine gX ?_
              refine atF hm fun x117 hx117 hm=>?_;refine gX ?_
              refine fg Tryz.func136 ?_;conv=>whnf
              apply Cs;conv=>whnf
              apply Cs;refine gH ?_
              have O:=O.bc (.cells (flatC ((([]:List Nat)).map n8)) false)
              apply Cs;conv=>whnf
              apply Cs;refine gH ?_
              have O:=O.bc (.cells (flatC ((([]:List Nat)).map n8)) false)
              refine jn (σ:=(List Nat)×Option Nat) hm 42 [] (fun s=>s.1) (fun (v121,a120) h=>(a120=none->v121=[])/\(a91=none->v92=[])/\(a111=none->v112=[])/\Own vars h0 [(a120,.cells (flatC (v121.map n8)) false),(sC g1 [((ah 1 n8) r9.1.out),((ah 1 n8) r9.1.next)]),(sC g3 [nS,nS]),(sC g20 [(n8 x15)]),(sC g22 [(clo 130 [(pG g16)])]),(sC g16 [(n8 v18)]),(sR g26 (cy p0 (.slice (some ⟨g30,0,none⟩) p0.nodes.length p0.nodes.length) (clo 133 [(FP (au p1.line)),(pG g24)]) (clo 132 []))),(sC g30 (flatC (v51.map n8))),(sC g24 [(clo 107 [(pG g22),(pG g20)])]),(sC g28 [nS,nS]),(sC g87 [(aj 1 a91 (v92.map n8)),(aj 1 a111 (v112.map n8))]),(a91,.cells (flatC (v92.map n8)) false),(a111,.cells (flatC (v112.map n8)) false)] h) (fun (v121,a120)=>[(5,(aj 1 a120 (v121.map n8)))]) (fun hm=>?_) ?_
              ·refine gX ?_
               refine atF hm fun x126 hx126 hm=>?_;refine gX ?_
               refine lw 42 [0,1,16,17] (σ:=((List Nat)×Nat)×Option Nat) (fun s=>s.1) (fun ((v128,v129),a127) h=>(a127=none->v128=[])/\(a91=none->v92=[])/\(a111=none->v112=[])/\Own vars h0 [(sC g30 (flatC (v51.map n8))),(sC g24 [(clo 107 [(pG g22),(pG g20)])]),(sC g22 [(clo 130 [(pG g16)])]),(sC g16 [(n8 v18)]),(sC g20 [(n8 x15)]),(a127,.cells (flatC (v128.map n8)) false),(sC g1 [((ah 1 n8) r9.1.out),((ah 1 n8) r9.1.next)]),(sC g3 [nS,nS]),(sR g26 (cy p0 (.slice (some ⟨g30,0,none⟩) p0.nodes.length p0.nodes.length) (clo 133 [(FP (au p1.line)),(pG g24)]) (clo 132 []))),(sC g28 [nS,nS]),(sC g87 [(aj 1 a91 (v92.map n8)),(aj 1 a111 (v112.map n8))]),(a91,.cells (flatC (v92.map n8)) false),(a111,.cells (flatC (v112.map n8)) false)] h) (fun ((v128,v129),a127)=>[(5,(aj 1 a127 (v128.map n8))),(18,(i64 v129))]) ((([]:List Nat),0),none) hm ⟨(fun _=>rfl),ha114,ha115,(O.sel [2,3,4,5,6,0,11,12,13,7,8,9,10] (by decide))⟩ ?_
               clear hm;rintro⟨⟨v128,v129⟩,a127⟩ nx133 base h hm ⟨ha130,ha131,ha132,O⟩
               refine gX ?_
               refine br hm (fun hm=>?_) fun hm=>?_
               ·refine gX ?_
                refine atF hm fun x134 hx134 hm=>?_;refine gX ?_
                refine dF ?_
                refine gX ?_
                refine dF ?_
                refine gX ?_
                refine ix 1 hm fun x135 hx135 hm=>?_;refine gH ?_
                refine⟨_,ae rfl (O.at (.head _)) rfl (cR (enc:=n8) (s:=1) (k:=0) (fun _=>rfl) hx135 rfl),?_⟩;refine gH ?_
                refine fg Tryz.func132 ?_;refine gX ?_
                (first|refine⟨.inr (.inr (ae rfl (O.at (.head _)) rfl rfl)),?_⟩|refine⟨.inr (.inr (ae rfl (O.at (.tail _ (.head _))) rfl rfl)),?_⟩|refine⟨.inr (.inr (ae rfl (O.at (.tail _ (.tail _ (.head _)))) rfl rfl)),?_⟩|refine⟨.inr (.inr (ae rfl (O.at (.tail _ (.tail _ (.tail _ (.head _))))) rfl rfl)),?_⟩|refine⟨.inr (.inr (ae rfl (O.at (.tail _ (.tail _ (.tail _ (.tail _ (.head _)))))) rfl rfl)),?_⟩|refine⟨.inr (.inr (ae rfl (O.at (.tail _ (.tail _ (.tail _ (.tail _ (.tail _ (.head _))))))) rfl rfl)),?_⟩|refine⟨.inr (.inr (ae rfl (O.at (.tail _ (.tail _ (.tail _ (.tail _ (.tail _ (.tail _ (.head _)))))))) rfl rfl)),?_⟩|refine⟨.inl (Ext.refl _),?_⟩|refine⟨.inr (.inr rfl),?_⟩|refine⟨.inr (by kernel_rfl),?_⟩|refine⟨.inl (by kernel_rfl),?_⟩|refine id ?_);refine gH ?_
                refine O.dq (l:=([x135]:(List Nat))) (enc:=n8) (s:=1) (z:=(n8 0)) rfl rfl (by kernel_rfl) (by kernel_rfl) rfl rfl rfl rfl (fun _=>rfl) fun g136 h O=>?_;refine gH ?_
                refine O.gB (enc:=n8) (l:=v128) (new:=([x135]:(List Nat))) (s:=1) (b:=1) (.tail _ (.tail _ (.tail _ (.tail _ (.tail _ (.tail _ (.head _))))))) ha130 rfl rfl rfl rfl rfl rfl rfl rfl (YOk.own (O.at (.head _)) rfl (fun _=>rfl) rfl) (fun _=>rfl) (fun _=>rfl) (by decide) hm.1 fun a138 h ha139 O=>?_;refine gH ?_
                (first|refine⟨.inr (.inr (ae rfl (O.at (.head _)) rfl rfl)),?_⟩|refine⟨.inr (.inr (ae rfl (O.at (.tail _ (.head _))) rfl rfl)),?_⟩|refine⟨.inr (.inr (ae rfl (O.at (.tail _ (.tail _ (.head _)))) rfl rfl)),?_⟩|refine⟨.inr (.inr (ae rfl (O.at (.tail _ (.tail _ (.tail _ (.head _))))) rfl rfl)),?_⟩|refine⟨.inr (.inr (ae rfl (O.at (.tail _ (.tail _ (.tail _ (.tail _ (.head _)))))) rfl rfl)),?_⟩|refine⟨.inr (.inr (ae rfl (O.at (.tail _ (.tail _ (.tail _ (.tail _ (.tail _ (.head _))))))) rfl rfl)),?_⟩|refine⟨.inr (.inr (ae rfl (O.at (.tail _ (.tail _ (.tail _ (.tail _ (.tail _ (.tail _ (.head _)))))))) rfl rfl)),?_⟩|refine⟨.inl (Ext.refl _),?_⟩|refine⟨.inr (.inr rfl),?_⟩|refine⟨.inr (by kernel_rfl),?_⟩|refine⟨.inl (by kernel_rfl),?_⟩|refine id ?_);refine gH ?_
                replace hm:=hm.2
                refine gX ?_
                refine aR hm fun hm=>?_;refine gH ?_
                exact jx (((v128++([x135]:(List Nat))),(v129+1)),a138) hm ⟨ha139,ha131,ha132,(O.sel [1,2,3,4,5,6,7,8,9,10,11,12,13] (by decide))⟩
               ·refine gX ?_
                exact jx (v128,a127) hm ⟨ha130,ha131,ha132,(O.sel [5,6,7,4,2,3,8,0,1,9,10,11,12] (by decide))⟩
              ·clear hm;rintro⟨v121,a120⟩ base h hm ⟨ha122,ha123,ha124,O⟩
               refine gX ?_
               obtain⟨x140,hx140,hm⟩:=hm
               have h9:=hm
               obtain⟨g141,rfl⟩:=lx ha122 hx140
               replace hm:=h9
               refine bV (s:=1) (j:=0) rfl rfl rfl rfl (by rw[List.length_map];exact ak hx140) ?_;refine gH ?_
               refine ldE (s:=1) (i:=0) (O.at (.head _)) hx140 ?_;refine gH ?_
               refine jn hm 189 [0,4,16,162,163,164] (fun s=>s) (fun v142 h=>(a91=none->v92=[])/\(a111=none->v112=[])/\Own vars h0 [(sC g30 (flatC (v51.map n8))),(sC g24 [(clo 107 [(pG g22),(pG g20)])]),(sC g22 [(clo 130 [(pG g16)])]),(sC g16 [(n8 v18)]),(sC g20 [(n8 x15)]),(sC g28 [nS,nS]),(sC g87 [(aj 1 a91 (v92.map n8)),(aj 1 a111 (v112.map n8))]),(a91,.cells (flatC (v92.map n8)) false),(a111,.cells (flatC (v112.map n8)) false),(sC g1 [((ah 1 n8) r9.1.out),((ah 1 n8) r9.1.next)]),(sC g3 [nS,nS]),(sR g26 (cy p0 (.slice (some ⟨g30,0,none⟩) p0.nodes.length p0.nodes.length) (clo 133 [(FP (au p1.line)),(pG g24)]) (clo 132 [])))] h) (fun v142=>[(21,(n8 v142))]) (fun hm=>?_) ?_
               ·refine gX ?_
                refine br hm (fun hm=>?_) fun hm=>?_
                ·refine gX ?_
                 exact jx 2 hm ⟨ha123,ha124,(O.sel [7,8,4,5,3,9,10,11,12,1,2,6] (by decide))⟩
                ·refine gX ?_
                 exact jx x140 hm ⟨ha123,ha124,(O.sel [7,8,4,5,3,9,10,11,12,1,2,6] (by decide))⟩
               ·clear hm;rintro v142 base h hm ⟨ha143,ha144,O⟩
                refine gX ?_
                refine ldO (O.at (.tail _ (.tail _ (.tail _ (.tail _ (.tail _ (.tail _ (.head _)))))))) ?_;refine gH ?_
                refine fz ?_;refine gH ?_
                refine O.apL (enc:=n8) (l:=v112) (new:=([v142]:(List Nat))) 1 (.tail _ (.tail _ (.tail _ (.tail _ (.tail _ (.tail _ (.tail _ (.tail _ (.head _))))))))) ha144 hm fun a146 h ha147 O hm=>?_;refine gH ?_
                refine O.stC 1 (.tail _ (.tail _ (.tail _ (.tail _ (.tail _ (.tail _ (.head _))))))) [(aj 1 a91 (v92.map n8)),(aj 1 a146 ((v112++([v142]:(List Nat))).map n8))] fun h O=>?_;refine gX ?_
                refine aR hm fun hm=>?_;refine gH ?_
                exact jx (((v112++([v142]:(List Nat))),(v113+1)),a146) hm ⟨ha143,ha147,O⟩
             ·refine gX ?_
              exact jx (v112,a111) hm ⟨ha114,ha115,(O.sel [5,6,7,8,9,10,4,2,3,11,0,1] (by decide))⟩
            ·clear hm;rintro⟨v107,a106⟩ base h hm ⟨ha108,ha109,O⟩
             refine gX ?_
             first|refine⟨.inr (.inr (ae rfl (O.at (.tail _ (.head _))) rfl rfl)),?_⟩|refine⟨.inr (.inl (by kernel_rfl)),?_⟩
             refine gX ?_
             refine fg Tryz.func60 ?_;refine gX ?_
             refine lT (s:=1) (enc:=n8) (l:=v92) (n:=v92.length) (m:=v92.length) rfl rfl rfl rfl rfl rfl rfl ?_;refine gX ?_
             (first|refine⟨.inr (.inr (ae rfl (O.at (.head _)) rfl rfl)),?_⟩|refine⟨.inr (.inr (ae rfl (O.at (.tail _ (.head _))) rfl rfl)),?_⟩|refine⟨.inr (.inr (ae rfl (O.at (.tail _ (.tail _ (.head _)))) rfl rfl)),?_⟩|refine⟨.inr (.inr (ae rfl (O.at (.tail _ (.tail _ (.tail _ (.head _))))) rfl rfl)),?_⟩|refine⟨.inr (.inr (ae rfl (O.at (.tail _ (.tail _ (.tail _ (.tail _ (.head _)))))) rfl rfl)),?_⟩|refine⟨.inr (.inr (ae rfl (O.at (.tail _ (.tail _ (.tail _ (.tail _ (.tail _ (.head _))))))) rfl rfl)),?_⟩|refine⟨.inr (.inr (ae rfl (O.at (.tail _ (.tail _ (.tail _ (.tail _ (.tail _ (.tail _ (.head _)))))))) rfl rfl)),?_⟩|refine⟨.inl (Ext.refl _),?_⟩|refine⟨.inr (.inr rfl),?_⟩|refine⟨.inr (by kernel_rfl),?_⟩|refine⟨.inl (by kernel_rfl),?_⟩|refine id ?_);refine gH ?_
             first|refine⟨.inr (.inr (ae rfl (O.at (.tail _ (.head _))) rfl rfl)),?_⟩|refine⟨.inr (.inl (by kernel_rfl)),?_⟩
             refine gX ?_
             refine fg Tryz.func60 ?_;refine gX ?_
             refine lT (s:=1) (enc:=n8) (l:=v107) (n:=v107.length) (m:=v107.length) rfl rfl rfl rfl rfl rfl rfl ?_;refine gX ?_
             (first|refine⟨.inr (.inr (ae rfl (O.at (.head _)) rfl rfl)),?_⟩|refine⟨.inr (.inr (ae rfl (O.at (.tail _ (.head _))) rfl rfl)),?_⟩|refine⟨.inr (.inr (ae rfl (O.at (.tail _ (.tail _ (.head _)))) rfl rfl)),?_⟩|refine⟨.inr (.inr (ae rfl (O.at (.tail _ (.tail _ (.tail _ (.head _))))) rfl rfl)),?_⟩|refine⟨.inr (.inr (ae rfl (O.at (.tail _ (.tail _ (.tail _ (.tail _ (.head _)))))) rfl rfl)),?_⟩|refine⟨.inr (.inr (ae rfl (O.at (.tail _ (.tail _ (.tail _ (.tail _ (.tail _ (.head _))))))) rfl rfl)),?_⟩|refine⟨.inr (.inr (ae rfl (O.at (.tail _ (.tail _ (.tail _ (.tail _ (.tail _ (.tail _ (.head _)))))))) rfl rfl)),?_⟩|refine⟨.inl (Ext.refl _),?_⟩|refine⟨.inr (.inr rfl),?_⟩|refine⟨.inr (by kernel_rfl),?_⟩|refine⟨.inl (by kernel_rfl),?_⟩|refine id ?_);refine gH ?_
             refine O.stC 2 (.head _) [(iw a91 (v92.map n8)),(iw a106 (v107.map n8))] fun h O=>?_;refine gH ?_
             (first|refine⟨.inr (.inr (ae rfl (O.at (.head _)) rfl rfl)),?_⟩|refine⟨.inr (.inr (ae rfl (O.at (.tail _ (.head _))) rfl rfl)),?_⟩|refine⟨.inr (.inr (ae rfl (O.at (.tail _ (.tail _ (.head _)))) rfl rfl)),?_⟩|refine⟨.inr (.inr (ae rfl (O.at (.tail _ (.tail _ (.tail _ (.head _))))) rfl rfl)),?_⟩|refine⟨.inr (.inr (ae rfl (O.at (.tail _ (.tail _ (.tail _ (.tail _ (.head _)))))) rfl rfl)),?_⟩|refine⟨.inr (.inr (ae rfl (O.at (.tail _ (.tail _ (.tail _ (.tail _ (.tail _ (.head _))))))) rfl rfl)),?_⟩|refine⟨.inr (.inr (ae rfl (O.at (.tail _ (.tail _ (.tail _ (.tail _ (.tail _ (.tail _ (.head _)))))))) rfl rfl)),?_⟩|refine⟨.inl (Ext.refl _),?_⟩|refine⟨.inr (.inr rfl),?_⟩|refine⟨.inr (by kernel_rfl),?_⟩|refine⟨.inl (by kernel_rfl),?_⟩|refine id ?_);refine gH ?_
             refine gX ?_
             refine⟨_,aL rfl rfl (O.at (.head _)) rfl rfl (lbE rfl) rfl,?_⟩;refine gX ?_
             refine O.stC 2 (.tail _ (.tail _ (.tail _ (.tail _ (.tail _ (.head _)))))) [(iw a91 (v92.map n8)),(iw a106 (v107.map n8))] fun h O=>?_;refine gX ?_
             refine ldA (O.at (.tail _ (.tail _ (.tail _ (.tail _ (.head _)))))) ?_;refine gH ?_
             first|refine⟨.inr (.inr (bj rfl (O.at (.tail _ (.tail _ (.tail _ (.tail _ (.head _)))))) rfl rfl (lbE rfl) rfl)),?_⟩|refine⟨.inr (.inl (by kernel_rfl)),?_⟩
             refine gX ?_
             refine ldA (O.at (.tail _ (.tail _ (.tail _ (.tail _ (.tail _ (.head _))))))) ?_;refine gH ?_
             first|refine⟨.inr (.inr (bj rfl (O.at (.tail _ (.tail _ (.tail _ (.tail _ (.tail _ (.head _))))))) rfl rfl (lbE rfl) rfl)),?_⟩|refine⟨.inr (.inl (by kernel_rfl)),?_⟩
             refine gX ?_
             refine ldO (O.at (.tail _ (.tail _ (.tail _ (.tail _ (.tail _ (.tail _ (.tail _ (.tail _ (.tail _ (.head _))))))))))) ?_;refine gH ?_
             first|refine⟨.inr (.inr (ae rfl (O.at (.tail _ (.tail _ (.tail _ (.tail _ (.tail _ (.tail _ (.tail _ (.tail _ (.tail _ (.head _))))))))))) rfl rfl)),?_⟩|refine⟨.inr (.inl (by kernel_rfl)),?_⟩
             refine gX ?_
             refine O.kO 2 (.tail _ (.tail _ (.tail _ (.tail _ (.head _))))) fun h hext O=>?_;conv=>whnf
             refine⟨.inr hext,?_⟩;refine gH ?_
             refine O.kO 2 (.tail _ (.tail _ (.tail _ (.tail _ (.tail _ (.head _)))))) fun h hext O=>?_;conv=>whnf
             refine⟨.inr hext,?_⟩;refine gX ?_
             refine⟨_,aL rfl rfl (O.at (.tail _ (.tail _ (.tail _ (.tail _ (.head _)))))) rfl rfl (lbE rfl) rfl,?_⟩;conv=>whnf
             refine⟨_,aL rfl rfl (O.at (.tail _ (.tail _ (.tail _ (.tail _ (.tail _ (.head _))))))) rfl rfl (lbE rfl) rfl,?_⟩;conv=>whnf
             obtain⟨hn148,hm⟩:=hm
             exact⟨(r9.1,(⟨v92,v107⟩:Rsp),v51,0),hm,O.ext,fun h2 F=>VLe.tup (LLe.cons (VLe.refl _ _) (LLe.cons (VLe.agg (LLe.cons (O.mM F (Nat.le_refl _) (.tail _ (.tail _ (.head _))) ha108 (fun _=>rfl)) (LLe.cons (O.mM F (Nat.le_refl _) (.tail _ (.tail _ (.tail _ (.head _)))) ha109 (fun _=>rfl)) (LLe.nil _)))) (LLe.cons (O.iu F (Nat.le_refl _) (.tail _ (.tail _ (.tail _ (.tail _ (.tail _ (.tail _ (.tail _ (.tail _ (.tail _ (.tail _ (.head _))))))))))) (fun _=>rfl) hn148) (LLe.cons (VLe.refl _ _) (LLe.nil _)))))⟩
       ·refine gX ?_
        exact False.elim hm
def cz (p0:Circ) (p1:Flt) (p2:Pat) (p3:Pat) (K:(Bool×Nat)->Prop):Prop :=
 dC p0 p1 p2 p3 (fun r1=>dw r1.1 r1.2.1 (fun r6=>K (r6,r1.2.2.2)))
theorem jh {p0:Circ}{p1:Flt}{p2:Pat}{p3:Pat}{K:(Bool×Nat)->Prop} (hm:cz p0 p1 p2 p3 K) {h0:Heap} (hB:HasB vars h0):∃ r,K r/\CallD Tryz.prog NG 38 ⟨[ax p0,bE p1,dv p2,dv p3]⟩ h0 ((fun (r:(Bool×Nat))=>Value.tuple ⟨[Value.bool (r.1),i64 (r.2)]⟩) r) h0:=by
 unfold cz at hm
 refine fw Tryz.func38 hB (enc:=(fun (r:(Bool×Nat))=>Value.tuple ⟨[Value.bool (r.1),i64 (r.2)]⟩)) (fun r=>PureV.tup (ag.cons (PureV.flat rfl) (ag.cons (PureV.flat rfl) (ag.nil)))) fun O=>?_;conv=>whnf
 refine gX ?_
 refine fz ?_;refine gH ?_
 refine fz ?_;refine gH ?_
 refine fz ?_;refine gH ?_
 refine fz ?_;refine gX ?_
 refine ca (nP hm O.has) fun r1 hm=>?_;refine gH ?_
 (first|refine O.new (ai (l:=[(.slice none 0 0),(.slice none 0 0)]) rfl rfl rfl) fun g2 h O=>?_|refine O.bF (ai (l:=[(.slice none 0 0),(.slice none 0 0)]) rfl rfl rfl) fun g2 h O=>?_);refine gH ?_
 (first|refine O.new (ai (l:=[(.slice none 0 0),(.slice none 0 0)]) rfl rfl rfl) fun g4 h O=>?_|refine O.bF (ai (l:=[(.slice none 0 0),(.slice none 0 0)]) rfl rfl rfl) fun g4 h O=>?_);refine gH ?_
 refine O.stC 2 (.tail _ (.head _)) [((ah 1 n8) r1.1.out),((ah 1 n8) r1.1.next)] fun h O=>?_;refine gH ?_
 refine O.stC 2 (.head _) [((ah 1 n8) r1.2.1.out),((ah 1 n8) r1.2.1.next)] fun h O=>?_;refine gX ?_
 refine ldA (O.at (.tail _ (.head _))) ?_;refine gH ?_
 refine ldA (O.at (.head _)) ?_;refine gH ?_
 refine ca (oI hm O.has) fun r6 hm=>?_;refine gX ?_
 exact⟨(r6,r1.2.2.2),hm,O.ext,fun h2 F=>VLe.tup (LLe.cons (VLe.refl _ _) (LLe.cons (VLe.refl _ _) (LLe.nil _)))⟩
def bd (p0:Circ) (p1:Flt) (p2:PairT) (K:(Bool×Nat)->Prop):Prop :=
 cz p0 p1 p2.first p2.second (fun r1=>K (r1.1,r1.2))
theorem ew {p0:Circ}{p1:Flt}{p2:PairT}{K:(Bool×Nat)->Prop} (hm:bd p0 p1 p2 K) {h0:Heap} (hB:HasB vars h0):∃ r,K r/\CallD Tryz.prog NG 11 ⟨[ax p0,bE p1,tH p2]⟩ h0 ((fun (r:(Bool×Nat))=>Value.tuple ⟨[Value.bool (r.1),i64 (r.2)]⟩) r) h0:=by
 unfold bd at hm
 refine fw Tryz.func11 hB (enc:=(fun (r:(Bool×Nat))=>Value.tuple ⟨[Value.bool (r.1),i64 (r.2)]⟩)) (fun r=>PureV.tup (ag.cons (PureV.flat rfl) (ag.cons (PureV.flat rfl) (ag.nil)))) fun O=>?_;conv=>whnf
 refine gX ?_
 refine fz ?_;refine gH ?_
 refine fz ?_;refine gH ?_
 refine fz ?_;refine gX ?_
 refine ca (jh hm O.has) fun r1 hm=>?_;refine gX ?_
 exact⟨(r1.1,r1.2),hm,O.ext,fun h2 F=>VLe.tup (LLe.cons (VLe.refl _ _) (LLe.cons (VLe.refl _ _) (LLe.nil _)))⟩
theorem xl {c:Circ} (C:Cir c) {s v:Nat} (hs:s<c.nodes.length) (hv:v<=1) {K:Nat->Prop} (h:K 0):df c ⟨1,⟨s,Int.negSucc 0⟩,v,0⟩ K:=by
 unfold df
 refine vB C ⟨(fun q=>absurd rfl (dV.1 q)),fun _=>?_⟩
 refine cg (a:=false) (fun G=>⟨fun q=>?_,fun _=>⟨fun q=>?_,fun _=>CC hs (show (-1:Int)<=Int.negSucc 0 by decide) (by simp only[Int.ofNat_eq_natCast];omega) G⟩⟩) ⟨(fun q=>by cases q),fun _=>⟨fun q=>?_,fun _=>⟨fun q=>?_,fun _=>h⟩⟩⟩
 ·have:=aQ.1 q;dsimp only at this;omega
 ·have:=aQ.1 q;dsimp only at this;omega
 ·have:=mR.1 q;dsimp only at this;omega
 ·exact absurd rfl (dV.1 q)
theorem CP {c:Circ} (C:Cir c) {p1 p2:Pat} (h1:PatOk c p1) (h2:PatOk c p2) {s v:Nat} (hs:s<c.nodes.length) (hv:v<=1) {K:Rsp×Rsp×List Nat×Nat->Prop}
  (h:K (nI c idP (bP c p2),nI c idP (sol c p2 (ntS s ((bP c p1).getD s 0) (if 1-v=1 then 7 else 5)) idP),sol c p2 (ntS s ((bP c p1).getD s 0) (if 1-v=1 then 7 else 5)) idP,0)):dC c ⟨1,⟨s,Int.negSucc 0⟩,v,0⟩ p1 p2 K:=by
 have hlen:=C.len
 have V:=nc C h1
 have hold:(bP c p1).getD s 0<=3:=V.le s
 have hneg:ltI (Int.negSucc 0) (Int.ofNat 0)=true:=qm.2 (by decide)
 obtain⟨kk,hkk⟩:∃ kk,(if 1-v=1 then 7 else 5)=kk:=⟨_,rfl⟩
 rw[hkk] at h
 have hk57:kk=7\/kk=5:=by rw[<- hkk];split <;> omega
 obtain⟨nt,hnt⟩:∃ nt,ntS s ((bP c p1).getD s 0) kk=nt:=⟨_,rfl⟩
 have hle:∀ i v,v<=3->nt i v<=3:=hnt ▸ AM hold
 rw[hnt] at h
 unfold dC
 refine xl C hs hv ⟨(fun q=>absurd rfl (dV.1 q)),fun _=>⟨(fun q=>absurd rfl (dV.1 q)),fun _=>nE C h1 ⟨(fun q=>absurd rfl (dV.1 q)),fun _=>nE C h2 ⟨(fun q=>absurd rfl (dV.1 q)),fun _=>?_⟩⟩⟩⟩
 dsimp only
 refine cg (a:=s) (fun G=>⟨(fun q=>by rw[hneg] at q;cases q),fun _=>G⟩) ⟨_,jf V.len hs,hv,by decide,?_⟩
 refine cg (a:=kk) (fun G=>⟨(fun e=>by rw[if_pos (bD.1 e)] at hkk;rw[hkk];exact G),fun e=>by rw[if_neg (bW.1 e)] at hkk;rw[hkk];exact G⟩) ⟨fun _=>?_,fun q=>by rw[hneg] at q;cases q⟩
 refine Bn C h2 fun t o ho T0=>?_
 refine aD (fun s=>s.2<=o.length/\RunS c p2 nt idP o s.1 s.2) (fun s=>o.length-s.2) (fun t=>t=sol c p2 nt idP) ?_ ⟨Nat.zero_le _,T0 _ _⟩ ?_
 ·rintro k ⟨t,i⟩ nx ⟨hi,T⟩ hnx hk
  dsimp only at hi T
  have hol:o.length=c.nodes.length:=by have:=ho.perm.length_eq;simpa using this
  refine⟨fun q=>?_,fun q=>hk t ?_⟩
  ·have q:i<o.length:=aQ.1 q
   obtain⟨m,hm⟩:=aw q
   have hmn:m<c.nodes.length:=List.mem_range.1 (ho.perm.mem_iff.1 (List.mem_of_getElem? hm))
   obtain⟨x,hx⟩:=aw hmn
   have st:=T.step ho hm hx (hle _ _ (rX h2 mH T.le _ _))
   refine⟨m,hm,B9 C T hm hx (rdA C T.len hx) fun t1 e1 e2 e3=>⟨hmn,_,jf e1 hmn,fun q2=>?_,fun q2=>⟨hmn,_,jf e1 hmn,by dsimp only;omega,hnx _ ⟨q,?_⟩ (by dsimp only;omega)⟩⟩⟩
   ·have q2:=bD.1 q2
    have e9:∀ v,nt m v=eC kk [(bP c p1).getD s 0,v]:=fun v=>by rw[<- hnt];exact if_pos q2
    rw[e9] at st
    have ev:∀ {a b:Nat} {K:Nat->Prop},K (eC kk [a,b])->ba kk [a,b] K:=by
     intro a b K hK
     rcases hk57 with rfl|rfl
     ·exact rh (by decide) (by decide) (by decide:Arity 7 2) (by simp) hK
     ·exact rh (by decide) (by decide) (by decide:Arity 5 2) (by simp) hK
    refine ev ⟨hmn,_,jf e1 hmn,by dsimp only;omega,hnx _ ⟨q,?_⟩ (by dsimp only;omega)⟩
    dsimp only
    rw[e3,e2];exact st
   ·dsimp only
    have e9:∀ v,nt m v=v:=fun v=>by rw[<- hnt];exact if_neg (bW.1 q2)
    rw[e9] at st
    rw[e3,e2];exact st
  ·have q:o.length<=i:=bk.1 q
   have e:i=o.length:=by omega
   subst e
   exact (T.sol ho).is C h2 hle mH
 ·rintro _ rfl
  have S:=rC C h2 hle mH
  refine B8 C S.len ?_
  refine Bb C (pn:=idP) mH S.le (fun m x hx=>rdA C S.len hx) ?_
  exact⟨S.len.symm,h⟩
theorem oY {c:Circ} (C:Cir c) {p:PairT} (h1:PatOk c p.first) (h2:PatOk c p.second) {s v w:Nat} (hs:s<c.nodes.length) (hv:v<=1) (hw:sol c p.second (ntS s ((bP c p.first).getD s 0) (if 1-v=1 then 7 else 5)) idP=vN c p.second s w) {K:Bool×Nat->Prop}
  (h:K (A7 c p.second s w,0)):bd c ⟨1,⟨s,Int.negSucc 0⟩,v,0⟩ p K:=by
 unfold bd cz
 refine CP C h1 h2 hs hv ?_
 rw[hw]
 obtain⟨a,b⟩:=Cq C idP (bP c p.second)
 exact B0 a b h
end Go.Proofs.YtlbeebglhebpjaaGreatDoor
