/-
  U4, Gat: parts of the proof.
-/
import Derived.Test.YteceaohcjmbfbaaGreatDoorSb46
namespace Go.Proofs.YteceaohcjmbfbaaGreatDoor
open Go.Abs
set_option maxRecDepth 100000
structure StuckOk (c:Circ) (f:Flt):Prop where
 model:f.model=0
 value:f.value<=1
 other:f.other=0
 node:f.line.node<c.nodes.length
 pin1 : -1<=f.line.pin
 pin2:f.line.pin<Int.ofNat (insOf c f.line.node).length
theorem valid_vc {c:Circ} (C:Cir c) {K:Nat->Prop} (h:K 0):faults_valid_wp c K:=by
 unfold faults_valid_wp
 refine check_vc C.good ⟨(fun q=>absurd rfl (ne_t.1 q)),fun _=>⟨fun q=>?_,fun _=>h⟩⟩
 have:=lt_t.1 q
 rw[C.mems] at this
 exact absurd this (Nat.not_lt_zero _)
theorem line_vc {c:Circ}{l:LnZ} (h1:l.node<c.nodes.length) (h2 : -1<=l.pin) (h3:l.pin<Int.ofNat (insOf c l.node).length) {K:Bool->Prop} (h:K true):faults_line_wp c l K:=by
 unfold faults_line_wp
 refine⟨fun _=>⟨fun _=>⟨fun _=>?_,fun q=>?_⟩,fun q=>?_⟩,fun q=>?_⟩
 ·obtain⟨x,hx⟩:=get_lt h1
  refine⟨x,hx,?_⟩
  rw[insOf_eq hx] at h3
  rw[ltZ_t.2 h3];exact h
 ·have:ltI l.pin (Int.negSucc 0)=true:=by revert q;cases ltI l.pin (Int.negSucc 0) <;> simp
  have:l.pin<Int.negSucc 0:=ltZ_t.1 this
  omega
 ·have:=lt_f.1 q;omega
 ·have:=nlt_f.1 q;omega
theorem fcheck_vc {c:Circ} (C:Cir c) {f:Flt} (F:StuckOk c f) {K:Nat->Prop} (h:K 0):faults_Check_wp c f K:=by
 unfold faults_Check_wp
 refine valid_vc C ⟨(fun q=>absurd rfl (ne_t.1 q)),fun _=>?_⟩
 refine joinB' (a:=false) (fun G=>⟨fun q=>?_,fun _=>⟨fun q=>?_,fun _=>line_vc F.node F.pin1 F.pin2 G⟩⟩) ⟨(fun q=>by cases q),fun _=>⟨fun q=>?_,fun _=>⟨fun q=>?_,fun _=>h⟩⟩⟩
 ·have:=lt_t.1 q;have:=F.model;omega
 ·have:=lt_t.1 q;have:=F.value;omega
 ·have:=nlt_t.1 q;have:=F.model;omega
 ·exact absurd F.other (ne_t.1 q)
def ntF (f:Flt):Nat->Nat->Nat:=if f.line.pin<0 then netF f.line.node f.value else idN
def pnF (f:Flt):Nat->Nat->Nat->Nat:=if f.line.pin<0 then idP else pinF f.line.node f.line.pin f.value
theorem netF_le {a w:Nat} (h:w<=3):∀ i v,v<=3->netF a w i v<=3:=by intro i v hv;unfold netF;split <;> omega
theorem pinF_le {a w:Nat}{pin:Int} (h:w<=3):∀ m j v,v<=3->pinF a pin w m j v<=3:=by intro m j v hv;unfold pinF;split <;> omega
theorem idN_le:∀ i v,v<=3->idN i v<=3:=fun _ _ h=>h
theorem idP_le:∀ m j v,v<=3->idP m j v<=3:=fun _ _ _ h=>h
theorem ntF_le {f:Flt} (h:f.value<=1):∀ i v,v<=3->ntF f i v<=3:=by
 unfold ntF;split
 ·exact netF_le (by omega)
 ·exact idN_le
theorem pnF_le {f:Flt} (h:f.value<=1):∀ m j v,v<=3->pnF f m j v<=3:=by
 unfold pnF;split
 ·exact idP_le
 ·exact pinF_le (by omega)
def valV (c:Circ) (p:Pat):List Nat:=sol c p idN idP
def valF (c:Circ) (p:Pat) (f:Flt):List Nat:=sol c p (ntF f) (pnF f)
theorem runV_vc {c:Circ} (C:Cir c) {p:Pat} (hp:PatOk c p) {K:Rsp×List Nat×Nat->Prop} (h:K (rspV c idP (valV c p),valV c p,0)):sims_Run_wp c p K:=run_vc C hp h
theorem bothS_vc {c:Circ} (C:Cir c) {p:Pat} (hp:PatOk c p) {f:Flt} (F:StuckOk c f) {K:Rsp×Rsp×List Nat×Nat->Prop} (h:K (rspV c idP (valV c p),rspV c (pnF f) (valF c p f),valF c p f,0)):inject_both_wp c f p K:=by
 have hlen:=C.len
 have hm0:=F.model
 unfold inject_both_wp
 refine fcheck_vc C F ⟨(fun q=>absurd rfl (ne_t.1 q)),fun _=>⟨fun q=>absurd (eq_t.1 q) (by omega),fun _=>runV_vc C hp ⟨(fun q=>absurd rfl (ne_t.1 q)),fun _=>⟨fun q=>absurd (eq_t.1 q) (by omega),fun _=>⟨fun q=>absurd (eq_t.1 q) (by omega),fun _=>⟨fun q=>?_,fun q=>?_⟩⟩⟩⟩⟩⟩
 ·have hneg:f.line.pin<0:=ltZ_t.1 q
  have en:ntF f=netF f.line.node f.value:=if_pos hneg
  have ep:pnF f=idP:=if_pos hneg
  have eW:valF c p f=sol c p (netF f.line.node f.value) idP:=by unfold valF;rw[en,ep]
  refine injLoads C hp fun t o ho T0=>?_
  refine joinLoop (fun s=>s.2<=o.length/\RunS c p (netF f.line.node f.value) idP o s.1 s.2) (fun s=>o.length-s.2) (fun t=>t=valF c p f) ?_ ⟨Nat.zero_le _,T0 _ _⟩ ?_
  ·rintro k ⟨t,i⟩ nx ⟨hi,T⟩ hnx hk
   dsimp only at hi T
   have hol:o.length=c.nodes.length:=by have:=ho.perm.length_eq;simpa using this
   refine⟨fun q=>?_,fun q=>hk t ?_⟩
   ·have q:i<o.length:=lt_t.1 q
    obtain⟨m,hm⟩:=get_lt q
    have hmn:m<c.nodes.length:=List.mem_range.1 (ho.perm.mem_iff.1 (List.mem_of_getElem? hm))
    obtain⟨x,hx⟩:=get_lt hmn
    have st:=T.step ho hm hx (netF_le (by have:=F.value;omega) _ _ (baseV_le hp idP_le T.le _ _))
    refine⟨m,hm,injNode C T hm hx (rdA C T.len hx) fun t1 e1 e2 e3=>⟨hmn,_,getN e1 hmn,fun q2=>⟨hmn,_,getN e1 hmn,by omega,hnx _ ⟨q,?_⟩ (by dsimp only;omega)⟩,fun q2=>⟨hmn,_,getN e1 hmn,by omega,hnx _ ⟨q,?_⟩ (by dsimp only;omega)⟩⟩⟩
    ·dsimp only
     unfold netF at st
     rw[if_pos (eq_t.1 q2)] at st
     rw[e3];exact st
    ·dsimp only
     unfold netF at st
     rw[if_neg (eq_f.1 q2)] at st
     rw[e3,e2];exact st
   ·have q:o.length<=i:=lt_f.1 q
    have e:i=o.length:=by omega
    subst e
    rw[eW]
    exact (T.sol ho).is C hp (netF_le (by have:=F.value;omega)) idP_le
  ·rintro _ rfl
   have S:=sol_ok C hp (ntF_le F.value) (pnF_le F.value)
   refine outs_vc C S.len ?_
   refine nexts_vc C (pn:=idP) idP_le S.le (fun m x hx=>rdA C S.len hx) ?_
   refine⟨S.len.symm,?_⟩
   rw[ep] at h
   exact h
 ·have hneg:¬ f.line.pin<0:=Int.not_lt.2 (ltZ_f.1 q)
  have en:ntF f=idN:=if_neg hneg
  have ep:pnF f=pinF f.line.node f.line.pin f.value:=if_neg hneg
  have hw:f.value<=3:=by have:=F.value;omega
  have eW:valF c p f=sol c p idN (pinF f.line.node f.line.pin f.value):=by unfold valF;rw[en,ep]
  refine injLoads C hp fun t o ho T0=>?_
  refine joinLoop (fun s=>s.2<=o.length/\RunS c p idN (pinF f.line.node f.line.pin f.value) o s.1 s.2) (fun s=>o.length-s.2) (fun t=>t=valF c p f) ?_ ⟨Nat.zero_le _,T0 _ _⟩ ?_
  ·rintro k ⟨t,i⟩ nx ⟨hi,T⟩ hnx hk
   dsimp only at hi T
   have hol:o.length=c.nodes.length:=by have:=ho.perm.length_eq;simpa using this
   refine⟨fun q=>?_,fun q=>hk t ?_⟩
   ·have q:i<o.length:=lt_t.1 q
    obtain⟨m,hm⟩:=get_lt q
    have hmn:m<c.nodes.length:=List.mem_range.1 (ho.perm.mem_iff.1 (List.mem_of_getElem? hm))
    obtain⟨x,hx⟩:=get_lt hmn
    have st:=T.step ho hm hx (idN_le _ _ (baseV_le hp (pinF_le hw) T.le _ _))
    refine⟨m,hm,injNode C T hm hx (rdB C T.len hx) fun t1 e1 e2 e3=>⟨hmn,_,getN e1 hmn,hmn,_,getN e1 hmn,by omega,hnx _ ⟨q,?_⟩ (by dsimp only;omega)⟩⟩
    dsimp only
    rw[e3,e2];exact st
   ·have q:o.length<=i:=lt_f.1 q
    have e:i=o.length:=by omega
    subst e
    rw[eW]
    exact (T.sol ho).is C hp idN_le (pinF_le hw)
  ·rintro _ rfl
   have S:=sol_ok C hp (ntF_le F.value) (pnF_le F.value)
   refine outs_vc C S.len ?_
   refine nexts_vc C (pn:=pinF f.line.node f.line.pin f.value) (pinF_le hw) S.le (fun m x hx=>rdB C S.len hx) ?_
   refine⟨S.len.symm,?_⟩
   rw[ep] at h
   exact h
def Con (a b:Nat):Prop:=a<=1/\b<=1/\a≠b
instance (a b:Nat):Decidable (Con a b):=by unfold Con;infer_instance
def conN (a b:List Nat):List Nat:=(List.range (min a.length b.length)).filter fun i=>decide (Con (a.getD i 0) (b.getD i 0))
theorem filtS {p:Nat->Bool}{i:Nat}:(List.range (i+1)).filter p=(List.range i).filter p++(if p i=true then [i] else []):=by
 rw[List.range_succ,List.filter_append]
 congr 1
 rw[List.filter_cons]
 split <;> rfl
theorem filtLen {p:Nat->Bool}{i:Nat}:((List.range i).filter p).length<=i:=by
 have:=List.length_filter_le p (List.range i)
 rwa [List.length_range] at this
theorem contrary_vc {a b:List Nat} (ha:a.length<=1000) {K:List Nat->Prop} (h:K (conN a b)):inject_contrary_wp a b K:=by
 unfold inject_contrary_wp
 have hmin:min a.length b.length<=1000:=by omega
 refine joinLoop (fun s=>s.2<=min a.length b.length/\s.1=(List.range s.2).filter fun i=>decide (Con (a.getD i 0) (b.getD i 0))) (fun s=>min a.length b.length-s.2) (fun r=>r=conN a b) ?_ ⟨Nat.zero_le _,rfl⟩ (fun _ e=>e ▸ h)
 rintro k ⟨l,i⟩ nx ⟨hi,hl⟩ hnx hk
 dsimp only at hi hl
 refine⟨fun q=>?_,fun q=>hk _ ?_⟩
 ·have q:i<min a.length b.length:=lt_t.1 q
  have ga:=getD_some (l:=a) (i:=i) (by omega)
  have gb:=getD_some (l:=b) (i:=i) (by omega)
  have hll:=@filtLen (fun i=>decide (Con (a.getD i 0) (b.getD i 0))) i
  rw[<- hl] at hll
  refine joinB' (a:=if Con (a.getD i 0) (b.getD i 0) then l++[i] else l) (fun G=>?_) ⟨by omega,hnx _ ⟨q,?_⟩ (by dsimp only;omega)⟩
  ·refine joinB' (a:=decide (Con (a.getD i 0) (b.getD i 0))) (fun G2=>⟨_,ga,fun e1=>⟨_,gb,fun e2=>⟨_,ga,_,gb,?_⟩,fun e2=>?_⟩,fun e1=>?_⟩) ⟨fun e=>?_,fun e=>?_⟩
   ·have e1:=nlt_t.1 e1
    have e2:=nlt_t.1 e2
    have:neN (a.getD i 0) (b.getD i 0)=decide (Con (a.getD i 0) (b.getD i 0)):=by
     by_cases q:a.getD i 0=b.getD i 0
     ·rw[ne_f.2 q,decide_eq_false (fun w:Con _ _=>w.2.2 q)]
     ·rw[ne_t.2 q,decide_eq_true (show Con _ _ from⟨e1,e2,q⟩)]
    rw[this];exact G2
   ·have e2:=nlt_f.1 e2
    rw[decide_eq_false (fun w:Con _ _=>by have:=w.2.1;omega)] at G2;exact G2
   ·have e1:=nlt_f.1 e1
    rw[decide_eq_false (fun w:Con _ _=>by have:=w.1;omega)] at G2;exact G2
   ·rw[if_pos (of_decide_eq_true e)] at G
    exact⟨by simp only[List.length_singleton];omega,G⟩
   ·rw[if_neg (of_decide_eq_false e)] at G;exact G
  ·dsimp only
   rw[filtS,hl]
   by_cases e:Con (a.getD i 0) (b.getD i 0)
   ·rw[if_pos e,if_pos (decide_eq_true e)]
   ·rw[if_neg e,if_neg (by simpa using e),List.append_nil]
 ·have q:min a.length b.length<=i:=lt_f.1 q
  have e:i=min a.length b.length:=by omega
  subst e
  exact hl
theorem conN_len (a b:List Nat):(conN a b).length<=a.length:=by
 have:=@filtLen (fun i=>decide (Con (a.getD i 0) (b.getD i 0))) (min a.length b.length)
 unfold conN
 omega
theorem differ_vc {a b:Rsp} (h1:a.out.length<=1000) (h2:a.next.length<=1000) {K:List Nat×List Nat->Prop} (h:K (conN a.out b.out,conN a.next b.next)):inject_Differ_wp a b K:=by
 unfold inject_Differ_wp
 exact contrary_vc h1 (contrary_vc h2 h)
theorem rsp_len {c:Circ} (C:Cir c) (pn:Nat->Nat->Nat->Nat) (t:List Nat):(rspV c pn t).out.length<=1000/\(rspV c pn t).next.length<=1000:=by
 have:=C.good.outsLen
 have:=ofN_len c [14]
 have:=C.len
 unfold rspV
 simp only[List.length_map]
 omega
def dOf (c:Circ) (s:Nat):Nat:=(insOf c s).getD 0 0
theorem takeG {α:Type}{l:List α}{i:Nat}{x:α} (h:l[i]?=some x):l.take (i+1)=l.take i++[x]:=by
 obtain⟨h1,rfl⟩:=List.getElem?_eq_some_iff.1 h
 exact List.take_succ_eq_append_getElem h1
def rowL (c:Circ) (i:Nat):List LnZ:=(List.range ((insOf c i).length+1)).map fun j=>⟨i,Int.ofNat j-Int.ofNat 1⟩
def linesTo (c:Circ) (i:Nat):List LnZ:=(List.range i).flatMap (rowL c)
def linesN (c:Circ):List LnZ:=linesTo c c.nodes.length
theorem linesTo_succ (c:Circ) (i:Nat):linesTo c (i+1)=linesTo c i++rowL c i:=by
 unfold linesTo
 rw[List.range_succ,List.flatMap_append]
 simp
theorem linesTo_len {c:Circ} (C:Cir c):∀ i,i<=c.nodes.length->(linesTo c i).length<=i*17
 |0,_=>by unfold linesTo;simp
 |i+1,h=>by
  have:=linesTo_len C i (by omega)
  obtain⟨x,hx⟩:=get_lt (show i<c.nodes.length from h)
  have:=(C.good.node i x hx).few
  rw[linesTo_succ,List.length_append]
  unfold rowL
  rw[List.length_map,List.length_range,insOf_eq hx]
  omega
theorem lines_vc {c:Circ} (C:Cir c) {K:List LnZ×Nat->Prop} (h:K (linesN c,0)):faults_Lines_wp c K:=by
 have hlen:=C.len
 unfold faults_Lines_wp
 refine valid_vc C ⟨(fun q=>absurd rfl (ne_t.1 q)),fun _=>?_⟩
 refine joinLoop (fun s=>s.2<=c.nodes.length/\s.1=linesTo c s.2) (fun s=>c.nodes.length-s.2) (fun l=>l=linesN c) ?_ ⟨Nat.zero_le _,rfl⟩ (fun _ e=>e ▸ h)
 rintro k ⟨l,i⟩ nx ⟨hi,hl⟩ hnx hk
 dsimp only at hi hl
 refine⟨fun q=>?_,fun q=>hk _ ?_⟩
 ·have q:i<c.nodes.length:=lt_t.1 q
  obtain⟨x,hx⟩:=get_lt q
  have hfew:=(C.good.node i x hx).few
  have hll:=linesTo_len C i hi
  refine joinP (fun r=>r=linesTo c (i+1)) (fun k2 hk2=>⟨x,hx,by omega,?_⟩) ?_
  ·refine loopW_intro (fun s=>s.2<=x.ins.length+1/\s.1=linesTo c i++(rowL c i).take s.2) (fun s=>x.ins.length+1-s.2) ?_ ⟨Nat.zero_le _,by simp[hl]⟩
   rintro⟨l,j⟩ nx ⟨hj,hl⟩ hnx
   dsimp only at hj hl
   refine⟨fun q=>?_,fun q=>hk2 _ ?_⟩
   ·have q:j<x.ins.length+1:=lt_t.1 q
    have hg:(rowL c i)[j]?=some ⟨i,Int.ofNat j-Int.ofNat 1⟩:=by
     unfold rowL
     rw[List.getElem?_map,insOf_eq hx,List.getElem?_range q]
     rfl
    have hb:((rowL c i).take j).length<=17:=by
     rw[List.length_take];omega
    refine⟨by simp only[Int.ofNat_eq_natCast];omega,by simp only[Int.ofNat_eq_natCast];omega,?_,by omega,hnx _ ⟨q,?_⟩ (by dsimp only;omega)⟩
    ·rw[hl,List.length_append,List.length_singleton];omega
    ·dsimp only
     rw[hl,List.append_assoc,takeG hg]
   ·have q:x.ins.length+1<=j:=lt_f.1 q
    rw[hl,linesTo_succ,List.take_of_length_le]
    unfold rowL
    rw[List.length_map,List.length_range,insOf_eq hx]
    exact q
  ·rintro _ rfl
   exact⟨by omega,hnx _ ⟨q,rfl⟩ (by dsimp only;omega)⟩
 ·have q:c.nodes.length<=i:=lt_f.1 q
  have e:i=c.nodes.length:=by omega
  subst e
  exact hl
theorem simsCheck_vc {c:Circ} (C:Cir c) {p:Pat} (hp:PatOk c p) {K:Nat->Prop} (h:K 0):sims_Check_wp c p K:=by
 unfold sims_Check_wp
 exact check_vc C.good ⟨(fun q=>absurd rfl (ne_t.1 q)),fun _=>fits_vc C hp h⟩
theorem snoc_mem {α:Type}{l:List α}{a b:α}:a∈l++[b]↔a∈l\/a=b:=by rw[List.mem_append,List.mem_singleton]
def gateC:Circ:=⟨[⟨0,[],0,0⟩,⟨0,[],0,0⟩,⟨5,[0,1],0,0⟩],[⟨#[97]⟩,⟨#[98]⟩,⟨#[121]⟩],[],[2]⟩
theorem isname_aby:(([⟨#[97]⟩,⟨#[98]⟩,⟨#[121]⟩]:List ByteArray).all fun s=>isTrue (runFn Tryz.prog [] (orcExt Tryz.prog) 60 140 #[.string s] (heapOf vars)))=true:=by kernel_rfl
theorem isNm_aby {s:ByteArray} (h:s∈([⟨#[97]⟩,⟨#[98]⟩,⟨#[121]⟩]:List ByteArray)):IsNm s:=by
 obtain⟨h',e⟩:=isTrue_iff (List.all_eq_true.1 isname_aby s h)
 have c:=(runFn_sound hM hP (fun f vs h v e=>orcExt_sound f vs h v e) 60 _ _ _ _ _ e).1
 exact⟨PureV.flatB rfl,fun h b=>c.lift (by kernel_rfl) rfl (bears_vars (hasSize b) (hasVars b))⟩
theorem gate_node {i:Nat}{x:Node} (h:gateC.nodes[i]?=some x):(i=0/\x=⟨0,[],0,0⟩)\/(i=1/\x=⟨0,[],0,0⟩)\/(i=2/\x=⟨5,[0,1],0,0⟩):=by
 have hi:=lt_of_get h
 have hi:i<3:=hi
 have:i=0\/i=1\/i=2:=by omega
 rcases this with rfl|rfl|rfl
 ·cases h;exact .inl ⟨rfl,rfl⟩
 ·cases h;exact .inr (.inl ⟨rfl,rfl⟩)
 ·cases h;exact .inr (.inr ⟨rfl,rfl⟩)
theorem gate_cir:Cir gateC:=by
 have node:∀ i x,gateC.nodes[i]?=some x->GoodN gateC i x:=by
  intro i x h
  rcases gate_node h with⟨rfl,rfl⟩|⟨rfl,rfl⟩|⟨rfl,rfl⟩
  ·exact⟨(by decide:0<=15),(by decide:Arity 0 0),(fun k m=>by cases m),(fun e=>by cases e),fun _=>⟨rfl,rfl⟩,(fun e=>by cases e),fun e=>absurd e (by decide:¬ 1<=0)⟩
  ·exact⟨(by decide:0<=15),(by decide:Arity 0 0),(fun k m=>by cases m),(fun e=>by cases e),fun _=>⟨rfl,rfl⟩,(fun e=>by cases e),fun e=>absurd e (by decide:¬ 1<=0)⟩
  ·exact⟨(by decide:5<=15),(by decide:Arity 5 2),(by decide:∀ k∈[0,1],k<3),(fun e=>by cases e),fun _=>⟨rfl,rfl⟩,(fun e=>by cases e),fun _ _=>(by decide:∀ k∈[0,1],k<2)⟩
 have F:FanOk gateC:=fan_ok ⟨by decide,fun i x h=>⟨(node i x h).ins,(node i x h).few⟩⟩
 have N:NamesOk gateC:=by
  refine FnV.of_walk (enc:=i64) (PureV.flat rfl) fun h hB=>?_
  exact names_all_walk (K:=fun r=>r=0) (names_all_vc (fun s m=>isNm_aby m) (by decide) (by decide) rfl) hB
 refine⟨⟨by decide,rfl,N,F,(fun m h=>by cases h),by decide,by decide,by decide,node,by decide⟩,rfl,fun i x h=>?_⟩
 rcases gate_node h with⟨rfl,rfl⟩|⟨rfl,rfl⟩|⟨rfl,rfl⟩ <;> decide
end Go.Proofs.YteceaohcjmbfbaaGreatDoor
