/-
  U4, U5, V0, Keys: parts of the proof.
-/
import Derived.Test.YtmhbhclfojmjdaaGreatDoorTh48
namespace Go.Proofs.YtmhbhclfojmjdaaGreatDoor
open Go.Abs
set_option maxRecDepth 100000
structure StuckOk (c:Circ) (f:Flt):Prop where
 model:f.model=0
 value:f.value<=1
 other:f.other=0
 node:f.line.node<c.nodes.length
 pin1 : -1<=f.line.pin
 pin2:f.line.pin<Int.ofNat (insOf c f.line.node).length
theorem valid_vc {c:Circ} (C:Cir c) {K:Nat->Prop} (h:K 0):faults_valid_wp c K:=by
 unfold faults_valid_wp
 refine check_vc C.good ⟨(fun q=>absurd rfl (ne_t.1 q)),fun _=>⟨fun q=>?_,fun _=>h⟩⟩
 have:=lt_t.1 q
 rw[C.mems] at this
 exact absurd this (Nat.not_lt_zero _)
theorem line_vc {c:Circ}{l:LnZ} (h1:l.node<c.nodes.length) (h2 : -1<=l.pin) (h3:l.pin<Int.ofNat (insOf c l.node).length) {K:Bool->Prop} (h:K true):faults_line_wp c l K:=by
 unfold faults_line_wp
 refine⟨fun _=>⟨fun _=>⟨fun _=>?_,fun q=>?_⟩,fun q=>?_⟩,fun q=>?_⟩
 ·obtain⟨x,hx⟩:=get_lt h1
  refine⟨x,hx,?_⟩
  rw[insOf_eq hx] at h3
  rw[ltZ_t.2 h3];exact h
 ·have:ltI l.pin (Int.negSucc 0)=true:=by revert q;cases ltI l.pin (Int.negSucc 0) <;> simp
  have:l.pin<Int.negSucc 0:=ltZ_t.1 this
  omega
 ·have:=lt_f.1 q;omega
 ·have:=nlt_f.1 q;omega
theorem fcheck_vc {c:Circ} (C:Cir c) {f:Flt} (F:StuckOk c f) {K:Nat->Prop} (h:K 0):faults_Check_wp c f K:=by
 unfold faults_Check_wp
 refine valid_vc C ⟨(fun q=>absurd rfl (ne_t.1 q)),fun _=>?_⟩
 refine joinB' (a:=false) (fun G=>⟨fun q=>?_,fun _=>⟨fun q=>?_,fun _=>line_vc F.node F.pin1 F.pin2 G⟩⟩) ⟨(fun q=>by cases q),fun _=>⟨fun q=>?_,fun _=>⟨fun q=>?_,fun _=>h⟩⟩⟩
 ·have:=lt_t.1 q;have:=F.model;omega
 ·have:=lt_t.1 q;have:=F.value;omega
 ·have:=nlt_t.1 q;have:=F.model;omega
 ·exact absurd F.other (ne_t.1 q)
def ntF (f:Flt):Nat->Nat->Nat:=if f.line.pin<0 then netF f.line.node f.value else idN
def pnF (f:Flt):Nat->Nat->Nat->Nat:=if f.line.pin<0 then idP else pinF f.line.node f.line.pin f.value
theorem netF_le {a w:Nat} (h:w<=3):∀ i v,v<=3->netF a w i v<=3:=by intro i v hv;unfold netF;split <;> omega
theorem pinF_le {a w:Nat}{pin:Int} (h:w<=3):∀ m j v,v<=3->pinF a pin w m j v<=3:=by intro m j v hv;unfold pinF;split <;> omega
theorem idN_le:∀ i v,v<=3->idN i v<=3:=fun _ _ h=>h
theorem idP_le:∀ m j v,v<=3->idP m j v<=3:=fun _ _ _ h=>h
theorem ntF_le {f:Flt} (h:f.value<=1):∀ i v,v<=3->ntF f i v<=3:=by
 unfold ntF;split
 ·exact netF_le (by omega)
 ·exact idN_le
theorem pnF_le {f:Flt} (h:f.value<=1):∀ m j v,v<=3->pnF f m j v<=3:=by
 unfold pnF;split
 ·exact idP_le
 ·exact pinF_le (by omega)
def valV (c:Circ) (p:Pat):List Nat:=sol c p idN idP
def valF (c:Circ) (p:Pat) (f:Flt):List Nat:=sol c p (ntF f) (pnF f)
theorem runV_vc {c:Circ} (C:Cir c) {p:Pat} (hp:PatOk c p) {K:Rsp×List Nat×Nat->Prop} (h:K (rspV c idP (valV c p),valV c p,0)):sims_Run_wp c p K:=run_vc C hp h
theorem bothS_vc {c:Circ} (C:Cir c) {p:Pat} (hp:PatOk c p) {f:Flt} (F:StuckOk c f) {K:Rsp×Rsp×List Nat×Nat->Prop} (h:K (rspV c idP (valV c p),rspV c (pnF f) (valF c p f),valF c p f,0)):inject_both_wp c f p K:=by
 have hlen:=C.len
 have hm0:=F.model
 unfold inject_both_wp
 refine fcheck_vc C F ⟨(fun q=>absurd rfl (ne_t.1 q)),fun _=>⟨fun q=>absurd (eq_t.1 q) (by omega),fun _=>runV_vc C hp ⟨(fun q=>absurd rfl (ne_t.1 q)),fun _=>⟨fun q=>absurd (eq_t.1 q) (by omega),fun _=>⟨fun q=>absurd (eq_t.1 q) (by omega),fun _=>⟨fun q=>?_,fun q=>?_⟩⟩⟩⟩⟩⟩
 ·have hneg:f.line.pin<0:=ltZ_t.1 q
  have en:ntF f=netF f.line.node f.value:=if_pos hneg
  have ep:pnF f=idP:=if_pos hneg
  have eW:valF c p f=sol c p (netF f.line.node f.value) idP:=by unfold valF;rw[en,ep]
  refine injLoads C hp fun t o ho T0=>?_
  refine joinLoop (fun s=>s.2<=o.length/\RunS c p (netF f.line.node f.value) idP o s.1 s.2) (fun s=>o.length-s.2) (fun t=>t=valF c p f) ?_ ⟨Nat.zero_le _,T0 _ _⟩ ?_
  ·rintro k ⟨t,i⟩ nx ⟨hi,T⟩ hnx hk
   dsimp only at hi T
   have hol:o.length=c.nodes.length:=by have:=ho.perm.length_eq;simpa using this
   refine⟨fun q=>?_,fun q=>hk t ?_⟩
   ·have q:i<o.length:=lt_t.1 q
    obtain⟨m,hm⟩:=get_lt q
    have hmn:m<c.nodes.length:=List.mem_range.1 (ho.perm.mem_iff.1 (List.mem_of_getElem? hm))
    obtain⟨x,hx⟩:=get_lt hmn
    have st:=T.step ho hm hx (netF_le (by have:=F.value;omega) _ _ (baseV_le hp idP_le T.le _ _))
    refine⟨m,hm,injNode C T hm hx (rdA C T.len hx) fun t1 e1 e2 e3=>⟨hmn,_,getN e1 hmn,fun q2=>⟨hmn,_,getN e1 hmn,by omega,hnx _ ⟨q,?_⟩ (by dsimp only;omega)⟩,fun q2=>⟨hmn,_,getN e1 hmn,by omega,hnx _ ⟨q,?_⟩ (by dsimp only;omega)⟩⟩⟩
    ·dsimp only
     unfold netF at st
     rw[if_pos (eq_t.1 q2)] at st
     rw[e3];exact st
    ·dsimp only
     unfold netF at st
     rw[if_neg (eq_f.1 q2)] at st
     rw[e3,e2];exact st
   ·have q:o.length<=i:=lt_f.1 q
    have e:i=o.length:=by omega
    subst e
    rw[eW]
    exact (T.sol ho).is C hp (netF_le (by have:=F.value;omega)) idP_le
  ·rintro _ rfl
   have S:=sol_ok C hp (ntF_le F.value) (pnF_le F.value)
   refine outs_vc C S.len ?_
   refine nexts_vc C (pn:=idP) idP_le S.le (fun m x hx=>rdA C S.len hx) ?_
   refine⟨S.len.symm,?_⟩
   rw[ep] at h
   exact h
 ·have hneg:¬ f.line.pin<0:=Int.not_lt.2 (ltZ_f.1 q)
  have en:ntF f=idN:=if_neg hneg
  have ep:pnF f=pinF f.line.node f.line.pin f.value:=if_neg hneg
  have hw:f.value<=3:=by have:=F.value;omega
  have eW:valF c p f=sol c p idN (pinF f.line.node f.line.pin f.value):=by unfold valF;rw[en,ep]
  refine injLoads C hp fun t o ho T0=>?_
  refine joinLoop (fun s=>s.2<=o.length/\RunS c p idN (pinF f.line.node f.line.pin f.value) o s.1 s.2) (fun s=>o.length-s.2) (fun t=>t=valF c p f) ?_ ⟨Nat.zero_le _,T0 _ _⟩ ?_
  ·rintro k ⟨t,i⟩ nx ⟨hi,T⟩ hnx hk
   dsimp only at hi T
   have hol:o.length=c.nodes.length:=by have:=ho.perm.length_eq;simpa using this
   refine⟨fun q=>?_,fun q=>hk t ?_⟩
   ·have q:i<o.length:=lt_t.1 q
    obtain⟨m,hm⟩:=get_lt q
    have hmn:m<c.nodes.length:=List.mem_range.1 (ho.perm.mem_iff.1 (List.mem_of_getElem? hm))
    obtain⟨x,hx⟩:=get_lt hmn
    have st:=T.step ho hm hx (idN_le _ _ (baseV_le hp (pinF_le hw) T.le _ _))
    refine⟨m,hm,injNode C T hm hx (rdB C T.len hx) fun t1 e1 e2 e3=>⟨hmn,_,getN e1 hmn,hmn,_,getN e1 hmn,by omega,hnx _ ⟨q,?_⟩ (by dsimp only;omega)⟩⟩
    dsimp only
    rw[e3,e2];exact st
   ·have q:o.length<=i:=lt_f.1 q
    have e:i=o.length:=by omega
    subst e
    rw[eW]
    exact (T.sol ho).is C hp idN_le (pinF_le hw)
  ·rintro _ rfl
   have S:=sol_ok C hp (ntF_le F.value) (pnF_le F.value)
   refine outs_vc C S.len ?_
   refine nexts_vc C (pn:=pinF f.line.node f.line.pin f.value) (pinF_le hw) S.le (fun m x hx=>rdB C S.len hx) ?_
   refine⟨S.len.symm,?_⟩
   rw[ep] at h
   exact h
def Con (a b:Nat):Prop:=a<=1/\b<=1/\a≠b
instance (a b:Nat):Decidable (Con a b):=by unfold Con;infer_instance
def conN (a b:List Nat):List Nat:=(List.range (min a.length b.length)).filter fun i=>decide (Con (a.getD i 0) (b.getD i 0))
theorem filtS {p:Nat->Bool}{i:Nat}:(List.range (i+1)).filter p=(List.range i).filter p++(if p i=true then [i] else []):=by
 rw[List.range_succ,List.filter_append]
 congr 1
 rw[List.filter_cons]
 split <;> rfl
theorem filtLen {p:Nat->Bool}{i:Nat}:((List.range i).filter p).length<=i:=by
 have:=List.length_filter_le p (List.range i)
 rwa [List.length_range] at this
theorem contrary_vc {a b:List Nat} (ha:a.length<=1000) {K:List Nat->Prop} (h:K (conN a b)):inject_contrary_wp a b K:=by
 unfold inject_contrary_wp
 have hmin:min a.length b.length<=1000:=by omega
 refine joinLoop (fun s=>s.2<=min a.length b.length/\s.1=(List.range s.2).filter fun i=>decide (Con (a.getD i 0) (b.getD i 0))) (fun s=>min a.length b.length-s.2) (fun r=>r=conN a b) ?_ ⟨Nat.zero_le _,rfl⟩ (fun _ e=>e ▸ h)
 rintro k ⟨l,i⟩ nx ⟨hi,hl⟩ hnx hk
 dsimp only at hi hl
 refine⟨fun q=>?_,fun q=>hk _ ?_⟩
 ·have q:i<min a.length b.length:=lt_t.1 q
  have ga:=getD_some (l:=a) (i:=i) (by omega)
  have gb:=getD_some (l:=b) (i:=i) (by omega)
  have hll:=@filtLen (fun i=>decide (Con (a.getD i 0) (b.getD i 0))) i
  rw[<- hl] at hll
  refine joinB' (a:=if Con (a.getD i 0) (b.getD i 0) then l++[i] else l) (fun G=>?_) ⟨by omega,hnx _ ⟨q,?_⟩ (by dsimp only;omega)⟩
  ·refine joinB' (a:=decide (Con (a.getD i 0) (b.getD i 0))) (fun G2=>⟨_,ga,fun e1=>⟨_,gb,fun e2=>⟨_,ga,_,gb,?_⟩,fun e2=>?_⟩,fun e1=>?_⟩) ⟨fun e=>?_,fun e=>?_⟩
   ·have e1:=nlt_t.1 e1
    have e2:=nlt_t.1 e2
    have:neN (a.getD i 0) (b.getD i 0)=decide (Con (a.getD i 0) (b.getD i 0)):=by
     by_cases q:a.getD i 0=b.getD i 0
     ·rw[ne_f.2 q,decide_eq_false (fun w:Con _ _=>w.2.2 q)]
     ·rw[ne_t.2 q,decide_eq_true (show Con _ _ from⟨e1,e2,q⟩)]
    rw[this];exact G2
   ·have e2:=nlt_f.1 e2
    rw[decide_eq_false (fun w:Con _ _=>by have:=w.2.1;omega)] at G2;exact G2
   ·have e1:=nlt_f.1 e1
    rw[decide_eq_false (fun w:Con _ _=>by have:=w.1;omega)] at G2;exact G2
   ·rw[if_pos (of_decide_eq_true e)] at G
    exact⟨by simp only[List.length_singleton];omega,G⟩
   ·rw[if_neg (of_decide_eq_false e)] at G;exact G
  ·dsimp only
   rw[filtS,hl]
   by_cases e:Con (a.getD i 0) (b.getD i 0)
   ·rw[if_pos e,if_pos (decide_eq_true e)]
   ·rw[if_neg e,if_neg (by simpa using e),List.append_nil]
 ·have q:min a.length b.length<=i:=lt_f.1 q
  have e:i=min a.length b.length:=by omega
  subst e
  exact hl
theorem conN_len (a b:List Nat):(conN a b).length<=a.length:=by
 have:=@filtLen (fun i=>decide (Con (a.getD i 0) (b.getD i 0))) (min a.length b.length)
 unfold conN
 omega
theorem conN_mem {a b:List Nat}{i:Nat}:i∈conN a b↔i<a.length/\i<b.length/\Con (a.getD i 0) (b.getD i 0):=by
 unfold conN
 rw[List.mem_filter,List.mem_range,decide_eq_true_eq,Nat.lt_min,and_assoc]
theorem differ_vc {a b:Rsp} (h1:a.out.length<=1000) (h2:a.next.length<=1000) {K:List Nat×List Nat->Prop} (h:K (conN a.out b.out,conN a.next b.next)):inject_Differ_wp a b K:=by
 unfold inject_Differ_wp
 exact contrary_vc h1 (contrary_vc h2 h)
def seenB (a b:Rsp):Bool:=ltN 0 ((conN a.out b.out).length+(conN a.next b.next).length)
theorem seen_vc {a b:Rsp} (h1:a.out.length<=1000) (h2:a.next.length<=1000) {K:Bool->Prop} (h:K (seenB a b)):inject_seen_wp a b K:=by
 unfold inject_seen_wp
 have l1:=conN_len a.out b.out
 have l2:=conN_len a.next b.next
 exact differ_vc h1 h2 ⟨by dsimp only;omega,h⟩
def detB (c:Circ) (p:Pat) (f:Flt):Bool:=seenB (rspV c idP (valV c p)) (rspV c (pnF f) (valF c p f))
theorem rsp_len {c:Circ} (C:Cir c) (pn:Nat->Nat->Nat->Nat) (t:List Nat):(rspV c pn t).out.length<=1000/\(rspV c pn t).next.length<=1000:=by
 have:=C.good.outsLen
 have:=ofN_len c [14]
 have:=C.len
 unfold rspV
 simp only[List.length_map]
 omega
theorem detects_vc {c:Circ} (C:Cir c) {p:Pat} (hp:PatOk c p) {f:Flt} (F:StuckOk c f) {K:Bool×Nat->Prop} (h:K (detB c p f,0)):inject_Detects_wp c f p K:=by
 unfold inject_Detects_wp
 obtain⟨h1,h2⟩:=rsp_len C idP (valV c p)
 exact bothS_vc C hp F (seen_vc h1 h2 h)
def dOf (c:Circ) (s:Nat):Nat:=(insOf c s).getD 0 0
theorem seen_iff {c:Circ}{pn qn:Nat->Nat->Nat->Nat}{t u:List Nat}:seenB (rspV c pn t) (rspV c qn u)=true↔(∃ o∈c.outs,Con (t.getD o 0) (u.getD o 0))\/∃ s∈ofN c [14],Con (min (pn s 0 (t.getD (dOf c s) 0)) 2) (min (qn s 0 (u.getD (dOf c s) 0)) 2):=by
 have key:∀ (l:List Nat) (f g:Nat->Nat),(conN (l.map f) (l.map g)).length≠0 ↔ ∃ o∈l,Con (f o) (g o):=by
  intro l f g
  rw[Ne,List.length_eq_zero_iff]
  constructor
  ·intro h
   obtain⟨i,hi⟩:=List.exists_mem_of_ne_nil _ h
   obtain⟨h1,_,h3⟩:=conN_mem.1 hi
   rw[List.length_map] at h1
   refine⟨l[i],List.getElem_mem h1,?_⟩
   simpa[List.getD,h1] using h3
  ·rintro⟨o,hm,hc⟩ e
   obtain⟨i,hi,rfl⟩:=List.getElem_of_mem hm
   have:i∈conN (l.map f) (l.map g):=conN_mem.2 ⟨by simpa using hi,by simpa using hi,by simpa[List.getD,hi] using hc⟩
   rw[e] at this
   cases this
 unfold seenB rspV
 dsimp only
 rw[lt_t,<- key,<- key (ofN c [14]) (fun s=>min (pn s 0 (t.getD (dOf c s) 0)) 2)]
 unfold dOf
 omega
theorem con_irr (a:Nat):¬ Con a a:=fun h=>h.2.2 rfl
def vN (c:Circ) (p:Pat) (m w:Nat):List Nat:=sol c p (netF m w) idP
def vP (c:Circ) (p:Pat) (k j w:Nat):List Nat:=sol c p idN (pinF k (Int.ofNat j) w)
def detN (c:Circ) (p:Pat) (m w:Nat):Bool:=seenB (rspV c idP (valV c p)) (rspV c idP (vN c p m w))
def detP (c:Circ) (p:Pat) (k j w:Nat):Bool:=seenB (rspV c idP (valV c p)) (rspV c (pinF k (Int.ofNat j) w) (vP c p k j w))
theorem det_net (c:Circ) (p:Pat) (m w:Nat):detB c p ⟨0,⟨m,Int.negSucc 0⟩,w,0⟩=detN c p m w:=by
 have h:(Int.negSucc 0:Int)<0:=by decide
 unfold detB valF ntF pnF
 simp only[if_pos h]
 rfl
theorem det_pin (c:Circ) (p:Pat) (k j w:Nat):detB c p ⟨0,⟨k,Int.ofNat j⟩,w,0⟩=detP c p k j w:=by
 have h:¬ (Int.ofNat j:Int)<0:=Int.not_lt.2 (Int.natCast_nonneg j)
 unfold detB valF ntF pnF
 simp only[if_neg h]
 rfl
theorem V_sol {c:Circ} (C:Cir c) {p:Pat} (hp:PatOk c p):Sol c p idN idP (valV c p):=sol_ok C hp idN_le idP_le
theorem vN_sol {c:Circ} (C:Cir c) {p:Pat} (hp:PatOk c p) {m w:Nat} (hw:w<=3):Sol c p (netF m w) idP (vN c p m w):=sol_ok C hp (netF_le hw) idP_le
theorem vP_sol {c:Circ} (C:Cir c) {p:Pat} (hp:PatOk c p) {k j w:Nat} (hw:w<=3):Sol c p idN (pinF k (Int.ofNat j) w) (vP c p k j w):=sol_ok C hp idN_le (pinF_le hw)
theorem ins_lt {c:Circ} (C:Cir c) {k:Nat}{x:Node} (hx:c.nodes[k]?=some x) (hc:combB x.kind=true) {y:Nat} (hy:y∈x.ins):y<k:=by
 have hc:=of_decide_eq_true hc
 exact (C.good.node k x hx).acyc hc.1 hc.2 y hy
theorem vN_low {c:Circ} (C:Cir c) {p:Pat} (hp:PatOk c p) {m w:Nat} (hw:w<=3):∀ n i,i<n->i<m->(vN c p m w).getD i 0=(valV c p).getD i 0:=by
 have S:=vN_sol C hp (m:=m) hw
 have V:=V_sol C hp
 intro n
 induction n with
 |zero=>intro i h;omega
 |succ n ih =>
  intro i hi him
  by_cases q:i<c.nodes.length
  ·obtain⟨x,hx⟩:=get_lt q
   rw[S.val i x hx,V.val i x hx]
   unfold netF idN
   rw[if_neg (by omega)]
   unfold baseV
   split
   ·rename_i hc
    congr 1
    refine readV_congr fun y hy=>?_
    have:=ins_lt C hx hc hy
    exact ih y (by omega) (by omega)
   ·rfl
  ·rw[List.getD,List.getD,List.getElem?_eq_none (by rw[S.len];omega),List.getElem?_eq_none (by rw[V.len];omega)]
theorem vN_at {c:Circ} (C:Cir c) {p:Pat} (hp:PatOk c p) {m w:Nat} (hw:w<=3) (hm:m<c.nodes.length):(vN c p m w).getD m 0=w:=by
 obtain⟨x,hx⟩:=get_lt hm
 rw[(vN_sol C hp hw).val m x hx]
 unfold netF
 rw[if_pos rfl]
theorem vP_eq {c:Circ} (C:Cir c) {p:Pat} (hp:PatOk c p) {k j w:Nat} (hw:w<=3) {x:Node} (hx:c.nodes[k]?=some x) (hc:combB x.kind=true):vP c p k j w=vN c p k (evalG x.kind (readV (pinF k (Int.ofNat j) w) (valV c p) k x)):=by
 have V:=V_sol C hp
 have hu:evalG x.kind (readV (pinF k (Int.ofNat j) w) (valV c p) k x)<=3:=evalG_le _ (readV_le (pinF_le hw) V.le)
 have S:=vN_sol C hp (m:=k) hu
 refine (Sol.eq C (⟨S.len,fun i y hy=>?_,S.le⟩:Sol c p idN (pinF k (Int.ofNat j) w) _) (vP_sol C hp hw)).symm
 by_cases e:i=k
 ·subst e
  rw[hx] at hy;cases hy
  rw[vN_at C hp hu (lt_of_get hx)]
  unfold idN
  rw[comb_base hc]
  congr 1
  refine readV_congr fun y hy=>?_
  exact (vN_low C hp hu (y+1) y (by omega) (ins_lt C hx hc hy)).symm
 ·rw[S.val i y hy]
  unfold netF idN
  rw[if_neg e]
  unfold baseV
  split
  ·congr 1
   unfold readV pinF idP
   refine List.ext_getElem (by simp) fun a b d=>?_
   simp only[List.getElem_mapIdx]
   rw[if_neg (fun h=>e h.1)]
  ·rfl
theorem vN_same {c:Circ} (C:Cir c) {p:Pat} (hp:PatOk c p) {m:Nat}:vN c p m ((valV c p).getD m 0)=valV c p:=by
 have V:=V_sol C hp
 have S:=vN_sol C hp (m:=m) (V.le m)
 refine (Sol.eq C (⟨V.len,fun i y hy=>?_,V.le⟩:Sol c p (netF m ((valV c p).getD m 0)) idP _) S).symm
 rw[V.val i y hy]
 unfold netF idN
 split
 ·rename_i e
  subst e
  exact (V.val i y hy).symm
 ·rfl
theorem detN_iff {c:Circ}{p:Pat}{m w:Nat}:detN c p m w=true↔(∃ o∈c.outs,Con ((valV c p).getD o 0) ((vN c p m w).getD o 0))\/∃ s∈ofN c [14],Con (min ((valV c p).getD (dOf c s) 0) 2) (min ((vN c p m w).getD (dOf c s) 0) 2):=seen_iff
theorem detP_iff {c:Circ}{p:Pat}{k j w:Nat}:detP c p k j w=true↔(∃ o∈c.outs,Con ((valV c p).getD o 0) ((vP c p k j w).getD o 0))\/∃ s∈ofN c [14],Con (min ((valV c p).getD (dOf c s) 0) 2) (min (pinF k (Int.ofNat j) w s 0 ((vP c p k j w).getD (dOf c s) 0)) 2):=seen_iff
theorem detN_same {c:Circ} (C:Cir c) {p:Pat} (hp:PatOk c p) {m:Nat}:detN c p m ((valV c p).getD m 0)=false:=by
 rw[Bool.eq_false_iff]
 intro h
 unfold detN at h
 rw[vN_same C hp] at h
 rcases seen_iff.1 h with⟨o,_,q⟩|⟨s,_,q⟩
 ·exact con_irr _ q
 ·exact con_irr _ q
theorem pinF_ne {k w s j v:Nat}{pin:Int} (h:s≠k):pinF k pin w s j v=v:=by unfold pinF;rw[if_neg (fun e=>h e.1)]
theorem dff_ne {c:Circ}{k s:Nat}{x:Node} (hx:c.nodes[k]?=some x) (hc:combB x.kind=true) (hs:s∈ofN c [14]):s≠k:=by
 rintro rfl
 have:=(ofN_mem.1 hs).2
 rw[kd_eq hx] at this
 have hc:=of_decide_eq_true hc
 omega
theorem pin_gate {c:Circ} (C:Cir c) {p:Pat} (hp:PatOk c p) {k j w:Nat} (hw:w<=3) {x:Node} (hx:c.nodes[k]?=some x) (hc:combB x.kind=true):detP c p k j w=detN c p k (evalG x.kind (readV (pinF k (Int.ofNat j) w) (valV c p) k x)):=by
 rw[Bool.eq_iff_iff,detP_iff,detN_iff,vP_eq C hp hw hx hc]
 refine or_congr Iff.rfl ⟨?_,?_⟩
 ·rintro⟨s,hs,q⟩
  rw[pinF_ne (dff_ne hx hc hs)] at q
  exact⟨s,hs,q⟩
 ·rintro⟨s,hs,q⟩
  refine⟨s,hs,?_⟩
  rw[pinF_ne (dff_ne hx hc hs)]
  exact q
theorem vP_state {c:Circ} (C:Cir c) {p:Pat} (hp:PatOk c p) {k j w:Nat} (hw:w<=3) {x:Node} (hx:c.nodes[k]?=some x) (hc:combB x.kind=false):vP c p k j w=valV c p:=by
 have V:=V_sol C hp
 refine (Sol.eq C (⟨V.len,fun i y hy=>?_,V.le⟩:Sol c p idN (pinF k (Int.ofNat j) w) _) (vP_sol C hp hw)).symm
 rw[V.val i y hy]
 unfold idN
 by_cases e:i=k
 ·subst e
  rw[hx] at hy;cases hy
  rw[noncomb_base hc,noncomb_base hc]
 ·unfold baseV
  split
  ·congr 1
   unfold readV pinF idP
   refine List.ext_getElem (by simp) fun a b d=>?_
   simp only[List.getElem_mapIdx]
   rw[if_neg (fun h=>e h.1)]
  ·rfl
theorem detP_state {c:Circ} (C:Cir c) {p:Pat} (hp:PatOk c p) {k w:Nat} (hw:w<=3) {x:Node} (hx:c.nodes[k]?=some x) (hk:x.kind=14):detP c p k 0 w=decide (Con (min ((valV c p).getD (dOf c k) 0) 2) (min w 2)):=by
 have hc:combB x.kind=false:=by rw[hk];decide
 have hm:k∈ofN c [14]:=ofN_mem.2 ⟨lt_of_get hx,by rw[kd_eq hx];exact hk⟩
 have e:∀ v,pinF k (Int.ofNat 0) w k 0 v=w:=fun v=>by unfold pinF;rw[if_pos ⟨rfl,rfl⟩]
 rw[Bool.eq_iff_iff,detP_iff,vP_state C hp hw hx hc,decide_eq_true_eq]
 constructor
 ·rintro (⟨o,_,q⟩|⟨s,hs,q⟩)
  ·exact absurd q (con_irr _)
  ·by_cases h:s=k
   ·subst h;rw[e] at q;exact q
   ·rw[pinF_ne h] at q;exact absurd q (con_irr _)
 ·intro q
  refine .inr ⟨k,hm,?_⟩
  rw[e];exact q
theorem vN_unread {c:Circ} (C:Cir c) {p:Pat} (hp:PatOk c p) {m w:Nat} (hw:w<=3) (hm:m<c.nodes.length) (h:∀ (k:Nat) (x:Node),c.nodes[k]?=some x->combB x.kind=true->m ∉ x.ins):vN c p m w=(valV c p).set m w:=by
 have V:=V_sol C hp
 have hml:m<(valV c p).length:=by rw[V.len];exact hm
 refine (Sol.eq C (⟨by rw[List.length_set];exact V.len,fun i y hy=>?_,fun i=>?_⟩:Sol c p (netF m w) idP _) (vN_sol C hp hw)).symm
 ·rw[getD_set hml]
  unfold netF
  by_cases e:m=i
  ·subst e;rw[if_pos rfl,if_pos rfl]
  ·rw[if_neg e,if_neg (fun q=>e q.symm),V.val i y hy]
   unfold idN baseV
   split
   ·rename_i hc
    congr 1
    refine readV_congr fun z hz=>?_
    rw[getD_set hml,if_neg]
    rintro rfl
    exact h i y hy hc hz
   ·rfl
 ·rw[getD_set hml]
  split
  ·exact hw
  ·exact V.le i
structure One (c:Circ) (m k j:Nat):Prop where
 pin:(insOf c k)[j]?=some m
 only:∀ k' j',(insOf c k')[j']?=some m->k'=k/\j'=j
 outs:m ∉ c.outs
theorem insOf_node {c:Circ}{k j m:Nat} (h:(insOf c k)[j]?=some m):∃ x,c.nodes[k]?=some x/\x.ins[j]?=some m:=by
 cases e:c.nodes[k]? with
 |none =>
  exfalso
  unfold insOf at h
  rw[List.getD,List.getElem?_map,e] at h
  simp at h
 |some x=>rw[insOf_eq e] at h;exact⟨x,rfl,h⟩
theorem vN_one {c:Circ} (C:Cir c) {p:Pat} (hp:PatOk c p) {m k j w:Nat} (hw:w<=3) (h:One c m k j) {x:Node} (hx:c.nodes[k]?=some x) (_hc:combB x.kind=true) (hm:m<c.nodes.length):vN c p m w=(vP c p k j w).set m w:=by
 have S:=vP_sol C hp (k:=k) (j:=j) hw
 have hml:m<(vP c p k j w).length:=by rw[S.len];exact hm
 refine (Sol.eq C (⟨by rw[List.length_set];exact S.len,fun i y hy=>?_,fun i=>?_⟩:Sol c p (netF m w) idP _) (vN_sol C hp hw)).symm
 ·rw[getD_set hml]
  unfold netF
  by_cases e:m=i
  ·subst e;rw[if_pos rfl,if_pos rfl]
  ·rw[if_neg e,if_neg (fun q=>e q.symm),S.val i y hy]
   unfold idN baseV
   split
   ·congr 1
    unfold readV
    refine List.ext_getElem (by simp) fun a b d=>?_
    simp only[List.getElem_mapIdx]
    have ha:a<y.ins.length:=by simpa using b
    unfold idP pinF
    rw[getD_set hml]
    by_cases q:m=y.ins[a]
    ·rw[if_pos q,if_pos]
     have:=h.only i a (by rw[insOf_eq hy,List.getElem?_eq_getElem ha,q])
     exact⟨this.1,by rw[this.2]⟩
    ·rw[if_neg q,if_neg]
     rintro⟨rfl,q2⟩
     have q2:a=j:=Int.ofNat.inj q2
     subst q2
     have:=h.pin
     rw[insOf_eq hy,List.getElem?_eq_getElem ha] at this
     exact q (Option.some.inj this).symm
   ·rfl
 ·rw[getD_set hml]
  split
  ·exact hw
  ·exact S.le i
theorem dff_pin {c:Circ} (C:Cir c) {s:Nat} (hs:s∈ofN c [14]):∃ x,c.nodes[s]?=some x/\x.kind=14/\(insOf c s)[0]?=some (dOf c s)/\x.ins.length=1:=by
 obtain⟨h1,h2⟩:=ofN_mem.1 hs
 obtain⟨x,hx⟩:=get_lt h1
 rw[kd_eq hx] at h2
 have ha:x.ins.length=1:=by have:=(C.good.node s x hx).arity;rw[h2] at this;exact arity_dff this
 refine⟨x,hx,h2,?_,ha⟩
 unfold dOf
 rw[insOf_eq hx]
 exact getD_some (by omega)
theorem net_one {c:Circ} (C:Cir c) {p:Pat} (hp:PatOk c p) {m k j w:Nat} (hw:w<=3) (h:One c m k j) (hm:m<c.nodes.length):detN c p m w=detP c p k j w:=by
 obtain⟨x,hx,hj⟩:=insOf_node h.pin
 have out_ne:∀ o∈c.outs,m≠o:=fun o ho e=>h.outs (e ▸ ho)
 cases hc:combB x.kind with
 |true =>
  have S:=vP_sol C hp (k:=k) (j:=j) hw
  have hml:m<(vP c p k j w).length:=by rw[S.len];exact hm
  rw[Bool.eq_iff_iff,detP_iff,detN_iff,vN_one C hp hw h hx hc hm]
  have key:∀ s∈ofN c [14],((vP c p k j w).set m w).getD (dOf c s) 0=(vP c p k j w).getD (dOf c s) 0:=by
   intro s hs
   obtain⟨y,hy,hk,hd,_⟩:=dff_pin C hs
   rw[getD_set hml,if_neg]
   intro e
   rw[<- e] at hd
   exact dff_ne hx hc hs (h.only s 0 hd).1
  refine or_congr ⟨?_,?_⟩ ⟨?_,?_⟩
  ·rintro⟨o,ho,q⟩
   rw[getD_set hml,if_neg (out_ne o ho)] at q
   exact⟨o,ho,q⟩
  ·rintro⟨o,ho,q⟩
   refine⟨o,ho,?_⟩
   rw[getD_set hml,if_neg (out_ne o ho)]
   exact q
  ·rintro⟨s,hs,q⟩
   refine⟨s,hs,?_⟩
   rw[key s hs] at q
   rw[pinF_ne (dff_ne hx hc hs)]
   exact q
  ·rintro⟨s,hs,q⟩
   refine⟨s,hs,?_⟩
   rw[key s hs]
   rw[pinF_ne (dff_ne hx hc hs)] at q
   exact q
 |false =>
  have hk:x.kind=14:=by
   have hc:=of_decide_eq_false hc
   have:=C.kinds k x hx
   by_cases e:x.kind=0
   ·have ha:=(C.good.node k x hx).arity
    rw[e] at ha
    have:hiZ 0=0:=by decide
    have q:=ha.2
    rw[this] at q
    have:=lt_of_get hj
    simp only[Int.ofNat_eq_natCast] at q
    omega
   ·omega
  have hs:k∈ofN c [14]:=ofN_mem.2 ⟨lt_of_get hx,by rw[kd_eq hx];exact hk⟩
  obtain⟨y,hy,_,hd,hl⟩:=dff_pin C hs
  rw[hx] at hy;cases hy
  have j0:j=0:=by have:=lt_of_get hj;omega
  subst j0
  have e:dOf c k=m:=by have:=h.pin;rw[hd] at this;exact Option.some.inj this
  have V:=V_sol C hp
  have hml:m<(valV c p).length:=by rw[V.len];exact hm
  rw[detP_state C hp hw hx hk,Bool.eq_iff_iff,detN_iff,decide_eq_true_eq,vN_unread C hp hw hm,e]
  ·constructor
   ·rintro (⟨o,ho,q⟩|⟨s,hs',q⟩)
    ·rw[getD_set hml,if_neg (out_ne o ho)] at q
     exact absurd q (con_irr _)
    ·rw[getD_set hml] at q
     by_cases e2:m=dOf c s
     ·rw[if_pos e2,<- e2] at q;exact q
     ·rw[if_neg e2] at q;exact absurd q (con_irr _)
   ·intro q
    refine .inr ⟨k,hs,?_⟩
    rw[e,getD_set hml,if_pos rfl]
    exact q
  ·intro k' x' hx' hc' hmem
   obtain⟨i,hi,q⟩:=List.getElem_of_mem hmem
   have:=(h.only k' i (by rw[insOf_eq hx',List.getElem?_eq_getElem hi,q])).1
   subst this
   rw[hx] at hx';cases hx'
   rw[hc] at hc';cases hc'
theorem net_none {c:Circ} (C:Cir c) {p:Pat} (hp:PatOk c p) {m w:Nat} (hw:w<=3) (hm:m<c.nodes.length) (h1:∀ k j:Nat,(insOf c k)[j]?≠some m) (h2:m ∉ c.outs):detN c p m w=false:=by
 have V:=V_sol C hp
 have hml:m<(valV c p).length:=by rw[V.len];exact hm
 rw[Bool.eq_false_iff]
 intro h
 rw[detN_iff,vN_unread C hp hw hm (fun k x hx _ hmem=>by
  obtain⟨i,hi,q⟩:=List.getElem_of_mem hmem
  exact h1 k i (by rw[insOf_eq hx,List.getElem?_eq_getElem hi,q]))] at h
 rcases h with⟨o,ho,q⟩|⟨s,hs,q⟩
 ·rw[getD_set hml,if_neg (fun e:m=o=>h2 (by rw[e];exact ho))] at q
  exact con_irr _ q
 ·obtain⟨y,hy,hk,hd,_⟩:=dff_pin C hs
  rw[getD_set hml,if_neg (fun e:m=dOf c s=>h1 s 0 (by rw[hd,e]))] at q
  exact con_irr _ q
theorem net_out {c:Circ} (C:Cir c) {p:Pat} (hp:PatOk c p) {m w:Nat} (hw:w<=3) (hm:m<c.nodes.length) (h:m∈c.outs) (hc:Con ((valV c p).getD m 0) w):detN c p m w=true :=
 detN_iff.2 (.inl ⟨m,h,by rw[vN_at C hp hw hm];exact hc⟩)
theorem net_state {c:Circ} (C:Cir c) {p:Pat} (hp:PatOk c p) {s w:Nat} (hw:w<=3) (hs:s∈ofN c [14]) (hc:Con ((valV c p).getD (dOf c s) 0) w):detN c p (dOf c s) w=true:=by
 obtain⟨x,hx,hk,hd,_⟩:=dff_pin C hs
 have hm:dOf c s<c.nodes.length:=by
  have:=(C.good.node s x hx).ins (dOf c s) (by rw[insOf_eq hx] at hd;exact List.mem_of_getElem? hd)
  exact this
 refine detN_iff.2 (.inr ⟨s,hs,?_⟩)
 rw[vN_at C hp hw hm]
 obtain⟨h1,h2,h3⟩:=hc
 exact⟨by omega,by omega,by omega⟩
set_option maxHeartbeats 8000000
def probecardlaw17_loads_wp (p0:Circ) (p1:Nat) (K:(Nat×LnI)->Prop):Prop :=
 joinW (α:=(Nat×Int×Int)) (fun k8=>loopW (S:=(Nat×Int×Int×Nat)) (fun (v9,v10,v11,v12) nx13=>((ltN v12 p0.nodes.length)=true->joinW (α:=(Nat×Int×Int)) (fun k17=>loopW (S:=(Nat×Int×Int×Nat)) (fun (v18,v19,v20,v21) nx22=>∃ x23,p0.nodes[v12]?=some x23/\((ltN v21 x23.ins.length)=true->joinW (α:=(Nat×Int×Int)) (fun k27=>∃ x28,p0.nodes[v12]?=some x28/\∃ x29,x28.ins[v21]?=some x29/\((eqN x29 p1)=true->v18+1<2 ^ 63/\k27 ((v18+1),(Int.ofNat v12),(Int.ofNat v21)))/\((eqN x29 p1)=false->k27 (v18,v19,v20))) (fun (v24,v25,v26)=>v21+1<2 ^ 63/\nx22 (v24,v25,v26,(v21+1))))/\((ltN v21 x23.ins.length)=false->k17 (v18,v19,v20))) (v9,v10,v11,0)) (fun (v14,v15,v16)=>v12+1<2 ^ 63/\nx13 (v14,v15,v16,(v12+1))))/\((ltN v12 p0.nodes.length)=false->k8 (v9,v10,v11))) (0,(Int.negSucc 0),(Int.negSucc 0),0)) (fun (v5,v6,v7)=>joinW (α:=Nat) (fun k31=>loopW (S:=(Nat×Nat)) (fun (v32,v33) nx34=>((ltN v33 p0.outs.length)=true->joinW (α:=Nat) (fun k36=>∃ x37,p0.outs[v33]?=some x37/\((eqN x37 p1)=true->v32+1<2 ^ 63/\k36 (v32+1))/\((eqN x37 p1)=false->k36 v32)) (fun v35=>v33+1<2 ^ 63/\nx34 (v35,(v33+1))))/\((ltN v33 p0.outs.length)=false->k31 v32)) (v5,0)) (fun v30=>K (v30,(⟨v6,v7⟩:LnI))))
theorem probecardlaw17_loads_walk {p0:Circ}{p1:Nat}{K:(Nat×LnI)->Prop} (hm:probecardlaw17_loads_wp p0 p1 K) {h0:Heap} (hB:HasB vars h0):∃ r,K r/\CallD Tryz.prog NG 18 ⟨[encCirc p0,i64 p1]⟩ h0 ((fun (r:(Nat×LnI))=>Value.tuple ⟨[i64 (r.1),encLnI (r.2)]⟩) r) h0:=by
 unfold probecardlaw17_loads_wp at hm
 refine fw Tryz.func18 hB (enc:=(fun (r:(Nat×LnI))=>Value.tuple ⟨[i64 (r.1),encLnI (r.2)]⟩)) (fun r=>PureV.tup (AllPure.cons (PureV.flat rfl) (AllPure.cons (pure_lnI _) (AllPure.nil)))) fun O=>?_;conv=>whnf
 refine gX ?_
 refine fz ?_;refine gH ?_
 (first|refine O.new (anew_alloc (l:=[(i64 0),(i64 0)]) rfl rfl rfl) fun g1 h O=>?_|refine O.newX (anew_alloc (l:=[(i64 0),(i64 0)]) rfl rfl rfl) fun g1 h O=>?_);refine gH ?_
 refine gX ?_
 (first|refine O.new (anew_alloc (l:=[(i64 0),(i64 0)]) rfl rfl rfl) fun g3 h O=>?_|refine O.newX (anew_alloc (l:=[(i64 0),(i64 0)]) rfl rfl rfl) fun g3 h O=>?_);refine gH ?_
 refine O.stC 2 (.head _) [(z64 (Int.negSucc 0)),(z64 (Int.negSucc 0))] fun h O=>?_;refine gH ?_
 refine jn hm 64 [1,2,5,7] (fun s=>s) (fun (v5,v6,v7) h=>Own vars h0 [((some g1),.cells [(i64 0),(i64 0)] false),((some g3),.cells [(z64 v6),(z64 v7)] false)] h) (fun (v5,v6,v7)=>[(6,(i64 v5))]) (fun hm=>?_) ?_
 ·refine gX ?_
  refine lw 64 [1,2,5,7] (σ:=(Nat×Int×Int×Nat)) (fun s=>s) (fun (v9,v10,v11,v12) h=>Own vars h0 [((some g1),.cells [(i64 0),(i64 0)] false),((some g3),.cells [(z64 v10),(z64 v11)] false)] h) (fun (v9,v10,v11,v12)=>[(6,(i64 v9)),(8,(i64 v12))]) (0,(Int.negSucc 0),(Int.negSucc 0),0) hm (O.sel [1,0] (by decide)) ?_
  clear hm;rintro⟨v9,v10,v11,v12⟩ nx13 base h hm O
  refine gX ?_
  refine br hm (fun hm=>?_) fun hm=>?_
  ·apply Cs;conv=>whnf
   refine jn hm 64 [1,2,5,7,8] (fun s=>s) (fun (v14,v15,v16) h=>Own vars h0 [((some g1),.cells [(i64 0),(i64 0)] false),((some g3),.cells [(z64 v15),(z64 v16)] false)] h) (fun (v14,v15,v16)=>[(6,(i64 v14))]) (fun hm=>?_) ?_
   ·refine gX ?_
    refine lw 64 [1,2,5,7,8] (σ:=(Nat×Int×Int×Nat)) (fun s=>s) (fun (v18,v19,v20,v21) h=>Own vars h0 [((some g1),.cells [(i64 0),(i64 0)] false),((some g3),.cells [(z64 v19),(z64 v20)] false)] h) (fun (v18,v19,v20,v21)=>[(6,(i64 v18)),(9,(i64 v21))]) (v9,v10,v11,0) hm O ?_
    clear hm;rintro⟨v18,v19,v20,v21⟩ nx22 base h hm O
    refine gX ?_
    refine atF hm fun x23 hx23 hm=>?_;refine gX ?_
    refine br hm (fun hm=>?_) fun hm=>?_
    ·apply Cs;conv=>whnf
     refine jn hm 64 [1,2,5,7,8,9] (fun s=>s) (fun (v24,v25,v26) h=>Own vars h0 [((some g1),.cells [(i64 0),(i64 0)] false),((some g3),.cells [(z64 v25),(z64 v26)] false)] h) (fun (v24,v25,v26)=>[(6,(i64 v24))]) (fun hm=>?_) ?_
     ·refine gX ?_
      refine atF hm fun x28 hx28 hm=>?_;refine gH ?_
      refine atF hm fun x29 hx29 hm=>?_;refine gX ?_
      refine br hm (fun hm=>?_) fun hm=>?_
      ·refine gX ?_
       refine aAdd hm fun hm=>?_;refine gX ?_
       refine O.stC 2 (.tail _ (.head _)) [(z64 (Int.ofNat v12)),(z64 (Int.ofNat v21))] fun h O=>?_;refine gH ?_
       exact jx ((v18+1),(Int.ofNat v12),(Int.ofNat v21)) hm O
      ·refine gX ?_
       exact jx (v18,v19,v20) hm O
     ·clear hm;rintro⟨v24,v25,v26⟩ base h hm O
      refine gX ?_
      refine aAdd hm fun hm=>?_;refine gH ?_
      exact jx (v24,v25,v26,(v21+1)) hm O
    ·refine gX ?_
     exact jx (v18,v19,v20) hm O
   ·clear hm;rintro⟨v14,v15,v16⟩ base h hm O
    refine gX ?_
    refine aAdd hm fun hm=>?_;refine gH ?_
    exact jx (v14,v15,v16,(v12+1)) hm O
  ·refine gX ?_
   exact jx (v9,v10,v11) hm O
 ·clear hm;rintro⟨v5,v6,v7⟩ base h hm O
  conv=>whnf
  refine jn hm 64 [5,7] (fun s=>s) (fun v30 h=>Own vars h0 [((some g1),.cells [(i64 0),(i64 0)] false),((some g3),.cells [(z64 v6),(z64 v7)] false)] h) (fun v30=>[(6,(i64 v30))]) (fun hm=>?_) ?_
  ·refine gX ?_
   refine lw 64 [1,2,5,7] (σ:=(Nat×Nat)) (fun s=>s) (fun (v32,v33) h=>Own vars h0 [((some g1),.cells [(i64 0),(i64 0)] false),((some g3),.cells [(z64 v6),(z64 v7)] false)] h) (fun (v32,v33)=>[(6,(i64 v32)),(10,(i64 v33))]) (v5,0) hm O ?_
   clear hm;rintro⟨v32,v33⟩ nx34 base h hm O
   refine gX ?_
   refine br hm (fun hm=>?_) fun hm=>?_
   ·apply Cs;conv=>whnf
    refine jn hm 64 [1,2,5,7,10] (fun s=>s) (fun v35 h=>Own vars h0 [((some g1),.cells [(i64 0),(i64 0)] false),((some g3),.cells [(z64 v6),(z64 v7)] false)] h) (fun v35=>[(6,(i64 v35))]) (fun hm=>?_) ?_
    ·refine gX ?_
     refine atF hm fun x37 hx37 hm=>?_;refine gX ?_
     refine br hm (fun hm=>?_) fun hm=>?_
     ·refine gX ?_
      refine aAdd hm fun hm=>?_;refine gH ?_
      exact jx (v32+1) hm O
     ·refine gX ?_
      exact jx v32 hm O
    ·clear hm;rintro v35 base h hm O
     refine gX ?_
     refine aAdd hm fun hm=>?_;refine gH ?_
     exact jx (v35,(v33+1)) hm O
   ·refine gX ?_
    exact jx v32 hm O
  ·clear hm;rintro v30 base h hm O
   refine gX ?_
   refine ldA (O.at (.tail _ (.head _))) ?_;refine gH ?_
   first|refine⟨.inr (.inr (loadAggK rfl (O.at (.tail _ (.head _))) rfl rfl (lbE rfl) rfl)),?_⟩|refine⟨.inr (.inl (by kernel_rfl)),?_⟩
   refine gX ?_
   refine O.stC 2 (.head _) [(z64 v6),(z64 v7)] fun h O=>?_;refine gH ?_
   (first|refine⟨.inr (.inr (loadK rfl (O.at (.head _)) rfl rfl)),?_⟩|refine⟨.inr (.inr (loadK rfl (O.at (.tail _ (.head _))) rfl rfl)),?_⟩|refine⟨.inr (.inr (loadK rfl (O.at (.tail _ (.tail _ (.head _)))) rfl rfl)),?_⟩|refine⟨.inr (.inr (loadK rfl (O.at (.tail _ (.tail _ (.tail _ (.head _))))) rfl rfl)),?_⟩|refine⟨.inr (.inr (loadK rfl (O.at (.tail _ (.tail _ (.tail _ (.tail _ (.head _)))))) rfl rfl)),?_⟩|refine⟨.inr (.inr (loadK rfl (O.at (.tail _ (.tail _ (.tail _ (.tail _ (.tail _ (.head _))))))) rfl rfl)),?_⟩|refine⟨.inr (.inr (loadK rfl (O.at (.tail _ (.tail _ (.tail _ (.tail _ (.tail _ (.tail _ (.head _)))))))) rfl rfl)),?_⟩|refine⟨.inl (Ext.refl _),?_⟩|refine⟨.inr (.inr rfl),?_⟩|refine⟨.inr (by kernel_rfl),?_⟩|refine⟨.inl (by kernel_rfl),?_⟩|refine id ?_);refine gH ?_
   refine gX ?_
   refine⟨_,resAggK rfl rfl (O.at (.head _)) rfl rfl (lbE rfl) rfl,?_⟩;conv=>whnf
   exact⟨(v30,(⟨v6,v7⟩:LnI)),hm,O.ext,fun h2 F=>VLe.tup (LLe.cons (VLe.refl _ _) (LLe.cons (VLe.refl _ _) (LLe.nil _)))⟩
theorem sameLnZ {kd:TypeDesc} (hk:keyKind kd=false) (a b:LnZ):keySame Tryz.prog 52 kd (encLnZ a) (encLnZ b)=some (decide (a=b)):=by
 have he:eqAgg Tryz.prog 52 (encLnZ a) (encLnZ b)=some ((Int.ofNat a.node==Int.ofNat b.node)&&((a.pin==b.pin)&&true)):=by kernel_rfl
 have hd:decide (a=b)=((Int.ofNat a.node==Int.ofNat b.node)&&((a.pin==b.pin)&&true)):=by
  rw[Bool.eq_iff_iff]
  simp only[decide_eq_true_eq,Bool.and_eq_true,beq_iff_eq,Bool.and_true]
  cases a;cases b
  simp
  try omega
 rw[hd]
 refine keySame_of hk he rfl rfl fun h=>?_
 have:a=b:=by rw[<- hd] at h;exact of_decide_eq_true h
 subst this
 simp[sameCs,sameC,i64,z64]
end Go.Proofs.YtmhbhclfojmjdaaGreatDoor
