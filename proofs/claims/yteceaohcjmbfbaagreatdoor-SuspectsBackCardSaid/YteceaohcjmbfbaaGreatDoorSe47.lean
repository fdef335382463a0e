/-
  U4, Gat, Ln2, Sus1: parts of the proof.
-/
import Derived.Test.YteceaohcjmbfbaaGreatDoorSe46
namespace Go.Proofs.YteceaohcjmbfbaaGreatDoor
open Go.Abs
set_option maxRecDepth 100000
structure StuckOk (c:Circ) (f:Flt):Prop where
 model:f.model=0
 value:f.value<=1
 other:f.other=0
 node:f.line.node<c.nodes.length
 pin1 : -1<=f.line.pin
 pin2:f.line.pin<Int.ofNat (insOf c f.line.node).length
theorem qg {c:Circ} (C:Cir c) {K:Nat->Prop} (h:K 0):cI c K:=by
 unfold cI
 refine vt C.good ⟨(fun q=>absurd rfl (eL.1 q)),fun _=>⟨fun q=>?_,fun _=>h⟩⟩
 have:=aJ.1 q
 rw[C.mems] at this
 exact absurd this (Nat.not_lt_zero _)
theorem wW {c:Circ}{l:LnZ} (h1:l.node<c.nodes.length) (h2 : -1<=l.pin) (h3:l.pin<Int.ofNat (insOf c l.node).length) {K:Bool->Prop} (h:K true):dV c l K:=by
 unfold dV
 refine⟨fun _=>⟨fun _=>⟨fun _=>?_,fun q=>?_⟩,fun q=>?_⟩,fun q=>?_⟩
 ·obtain⟨x,hx⟩:=au h1
  refine⟨x,hx,?_⟩
  rw[fE hx] at h3
  rw[lY.2 h3];exact h
 ·have:ltI l.pin (Int.negSucc 0)=true:=by revert q;cases ltI l.pin (Int.negSucc 0) <;> simp
  have:l.pin<Int.negSucc 0:=lY.1 this
  omega
 ·have:=aU.1 q;omega
 ·have:=ma.1 q;omega
theorem sx {c:Circ} (C:Cir c) {f:Flt} (F:StuckOk c f) {K:Nat->Prop} (h:K 0):faults_Check_wp c f K:=by
 unfold faults_Check_wp
 refine qg C ⟨(fun q=>absurd rfl (eL.1 q)),fun _=>?_⟩
 refine bx (a:=false) (fun G=>⟨fun q=>?_,fun _=>⟨fun q=>?_,fun _=>wW F.node F.pin1 F.pin2 G⟩⟩) ⟨(fun q=>by cases q),fun _=>⟨fun q=>?_,fun _=>⟨fun q=>?_,fun _=>h⟩⟩⟩
 ·have:=aJ.1 q;have:=F.model;omega
 ·have:=aJ.1 q;have:=F.value;omega
 ·have:=jz.1 q;have:=F.model;omega
 ·exact absurd F.other (eL.1 q)
def ntF (f:Flt):Nat->Nat->Nat:=if f.line.pin<0 then oq f.line.node f.value else idN
def pnF (f:Flt):Nat->Nat->Nat->Nat:=if f.line.pin<0 then idP else mv f.line.node f.line.pin f.value
theorem pR {a w:Nat} (h:w<=3):∀ i v,v<=3->oq a w i v<=3:=by intro i v hv;unfold oq;split <;> omega
theorem pI {a w:Nat}{pin:Int} (h:w<=3):∀ m j v,v<=3->mv a pin w m j v<=3:=by intro m j v hv;unfold mv;split <;> omega
theorem nP:∀ i v,v<=3->idN i v<=3:=fun _ _ h=>h
theorem fb:∀ m j v,v<=3->idP m j v<=3:=fun _ _ _ h=>h
theorem vS {f:Flt} (h:f.value<=1):∀ i v,v<=3->ntF f i v<=3:=by
 unfold ntF;split
 ·exact pR (by omega)
 ·exact nP
theorem wG {f:Flt} (h:f.value<=1):∀ m j v,v<=3->pnF f m j v<=3:=by
 unfold pnF;split
 ·exact fb
 ·exact pI (by omega)
def gE (c:Circ) (p:Pat):List Nat:=sol c p idN idP
def kO (c:Circ) (p:Pat) (f:Flt):List Nat:=sol c p (ntF f) (pnF f)
theorem sX {c:Circ} (C:Cir c) {p:Pat} (hp:PatOk c p) {K:Rsp×List Nat×Nat->Prop} (h:K (fW c idP (gE c p),gE c p,0)):dK c p K:=Bl C hp h
theorem zU {c:Circ} (C:Cir c) {p:Pat} (hp:PatOk c p) {f:Flt} (F:StuckOk c f) {K:Rsp×Rsp×List Nat×Nat->Prop} (h:K (fW c idP (gE c p),fW c (pnF f) (kO c p f),kO c p f,0)):cv c f p K:=by
 have hlen:=C.len
 have hm0:=F.model
 unfold cv
 refine sx C F ⟨(fun q=>absurd rfl (eL.1 q)),fun _=>⟨fun q=>absurd (bo.1 q) (by omega),fun _=>sX C hp ⟨(fun q=>absurd rfl (eL.1 q)),fun _=>⟨fun q=>absurd (bo.1 q) (by omega),fun _=>⟨fun q=>absurd (bo.1 q) (by omega),fun _=>⟨fun q=>?_,fun q=>?_⟩⟩⟩⟩⟩⟩
 ·have hneg:f.line.pin<0:=lY.1 q
  have en:ntF f=oq f.line.node f.value:=if_pos hneg
  have ep:pnF f=idP:=if_pos hneg
  have eW:kO c p f=sol c p (oq f.line.node f.value) idP:=by unfold kO;rw[en,ep]
  refine nr C hp fun t o ho T0=>?_
  refine ay (fun s=>s.2<=o.length/\RunS c p (oq f.line.node f.value) idP o s.1 s.2) (fun s=>o.length-s.2) (fun t=>t=kO c p f) ?_ ⟨Nat.zero_le _,T0 _ _⟩ ?_
  ·rintro k ⟨t,i⟩ nx ⟨hi,T⟩ hnx hk
   dsimp only at hi T
   have hol:o.length=c.nodes.length:=by have:=ho.perm.length_eq;simpa using this
   refine⟨fun q=>?_,fun q=>hk t ?_⟩
   ·have q:i<o.length:=aJ.1 q
    obtain⟨m,hm⟩:=au q
    have hmn:m<c.nodes.length:=List.mem_range.1 (ho.perm.mem_iff.1 (List.mem_of_getElem? hm))
    obtain⟨x,hx⟩:=au hmn
    have st:=T.step ho hm hx (pR (by have:=F.value;omega) _ _ (jE hp fb T.le _ _))
    refine⟨m,hm,pM C T hm hx (rdA C T.len hx) fun t1 e1 e2 e3=>⟨hmn,_,fa e1 hmn,fun q2=>⟨hmn,_,fa e1 hmn,by omega,hnx _ ⟨q,?_⟩ (by dsimp only;omega)⟩,fun q2=>⟨hmn,_,fa e1 hmn,by omega,hnx _ ⟨q,?_⟩ (by dsimp only;omega)⟩⟩⟩
    ·dsimp only
     unfold oq at st
     rw[if_pos (bo.1 q2)] at st
     rw[e3];exact st
    ·dsimp only
     unfold oq at st
     rw[if_neg (bM.1 q2)] at st
     rw[e3,e2];exact st
   ·have q:o.length<=i:=aU.1 q
    have e:i=o.length:=by omega
    subst e
    rw[eW]
    exact (T.sol ho).is C hp (pR (by have:=F.value;omega)) fb
  ·rintro _ rfl
   have S:=jk C hp (vS F.value) (wG F.value)
   refine pK C S.len ?_
   refine nC C (pn:=idP) fb S.le (fun m x hx=>rdA C S.len hx) ?_
   refine⟨S.len.symm,?_⟩
   rw[ep] at h
   exact h
 ·have hneg:¬ f.line.pin<0:=Int.not_lt.2 (oX.1 q)
  have en:ntF f=idN:=if_neg hneg
  have ep:pnF f=mv f.line.node f.line.pin f.value:=if_neg hneg
  have hw:f.value<=3:=by have:=F.value;omega
  have eW:kO c p f=sol c p idN (mv f.line.node f.line.pin f.value):=by unfold kO;rw[en,ep]
  refine nr C hp fun t o ho T0=>?_
  refine ay (fun s=>s.2<=o.length/\RunS c p idN (mv f.line.node f.line.pin f.value) o s.1 s.2) (fun s=>o.length-s.2) (fun t=>t=kO c p f) ?_ ⟨Nat.zero_le _,T0 _ _⟩ ?_
  ·rintro k ⟨t,i⟩ nx ⟨hi,T⟩ hnx hk
   dsimp only at hi T
   have hol:o.length=c.nodes.length:=by have:=ho.perm.length_eq;simpa using this
   refine⟨fun q=>?_,fun q=>hk t ?_⟩
   ·have q:i<o.length:=aJ.1 q
    obtain⟨m,hm⟩:=au q
    have hmn:m<c.nodes.length:=List.mem_range.1 (ho.perm.mem_iff.1 (List.mem_of_getElem? hm))
    obtain⟨x,hx⟩:=au hmn
    have st:=T.step ho hm hx (nP _ _ (jE hp (pI hw) T.le _ _))
    refine⟨m,hm,pM C T hm hx (rdB C T.len hx) fun t1 e1 e2 e3=>⟨hmn,_,fa e1 hmn,hmn,_,fa e1 hmn,by omega,hnx _ ⟨q,?_⟩ (by dsimp only;omega)⟩⟩
    dsimp only
    rw[e3,e2];exact st
   ·have q:o.length<=i:=aU.1 q
    have e:i=o.length:=by omega
    subst e
    rw[eW]
    exact (T.sol ho).is C hp nP (pI hw)
  ·rintro _ rfl
   have S:=jk C hp (vS F.value) (wG F.value)
   refine pK C S.len ?_
   refine nC C (pn:=mv f.line.node f.line.pin f.value) (pI hw) S.le (fun m x hx=>rdB C S.len hx) ?_
   refine⟨S.len.symm,?_⟩
   rw[ep] at h
   exact h
def Con (a b:Nat):Prop:=a<=1/\b<=1/\a≠b
instance (a b:Nat):Decidable (Con a b):=by unfold Con;infer_instance
def lK (a b:List Nat):List Nat:=(List.range (min a.length b.length)).filter fun i=>decide (Con (a.getD i 0) (b.getD i 0))
theorem lW {p:Nat->Bool}{i:Nat}:(List.range (i+1)).filter p=(List.range i).filter p++(if p i=true then [i] else []):=by
 rw[List.range_succ,List.filter_append]
 congr 1
 rw[List.filter_cons]
 split <;> rfl
theorem jM {p:Nat->Bool}{i:Nat}:((List.range i).filter p).length<=i:=by
 have:=List.length_filter_le p (List.range i)
 rwa [List.length_range] at this
theorem oO {a b:List Nat} (ha:a.length<=1000) {K:List Nat->Prop} (h:K (lK a b)):bV a b K:=by
 unfold bV
 have hmin:min a.length b.length<=1000:=by omega
 refine ay (fun s=>s.2<=min a.length b.length/\s.1=(List.range s.2).filter fun i=>decide (Con (a.getD i 0) (b.getD i 0))) (fun s=>min a.length b.length-s.2) (fun r=>r=lK a b) ?_ ⟨Nat.zero_le _,rfl⟩ (fun _ e=>e ▸ h)
 rintro k ⟨l,i⟩ nx ⟨hi,hl⟩ hnx hk
 dsimp only at hi hl
 refine⟨fun q=>?_,fun q=>hk _ ?_⟩
 ·have q:i<min a.length b.length:=aJ.1 q
  have ga:=getD_some (l:=a) (i:=i) (by omega)
  have gb:=getD_some (l:=b) (i:=i) (by omega)
  have hll:=@jM (fun i=>decide (Con (a.getD i 0) (b.getD i 0))) i
  rw[<- hl] at hll
  refine bx (a:=if Con (a.getD i 0) (b.getD i 0) then l++[i] else l) (fun G=>?_) ⟨by omega,hnx _ ⟨q,?_⟩ (by dsimp only;omega)⟩
  ·refine bx (a:=decide (Con (a.getD i 0) (b.getD i 0))) (fun G2=>⟨_,ga,fun e1=>⟨_,gb,fun e2=>⟨_,ga,_,gb,?_⟩,fun e2=>?_⟩,fun e1=>?_⟩) ⟨fun e=>?_,fun e=>?_⟩
   ·have e1:=jz.1 e1
    have e2:=jz.1 e2
    have:neN (a.getD i 0) (b.getD i 0)=decide (Con (a.getD i 0) (b.getD i 0)):=by
     by_cases q:a.getD i 0=b.getD i 0
     ·rw[pv.2 q,decide_eq_false (fun w:Con _ _=>w.2.2 q)]
     ·rw[eL.2 q,decide_eq_true (show Con _ _ from⟨e1,e2,q⟩)]
    rw[this];exact G2
   ·have e2:=ma.1 e2
    rw[decide_eq_false (fun w:Con _ _=>by have:=w.2.1;omega)] at G2;exact G2
   ·have e1:=ma.1 e1
    rw[decide_eq_false (fun w:Con _ _=>by have:=w.1;omega)] at G2;exact G2
   ·rw[if_pos (of_decide_eq_true e)] at G
    exact⟨by simp only[List.length_singleton];omega,G⟩
   ·rw[if_neg (of_decide_eq_false e)] at G;exact G
  ·dsimp only
   rw[lW,hl]
   by_cases e:Con (a.getD i 0) (b.getD i 0)
   ·rw[if_pos e,if_pos (decide_eq_true e)]
   ·rw[if_neg e,if_neg (by simpa using e),List.append_nil]
 ·have q:min a.length b.length<=i:=aU.1 q
  have e:i=min a.length b.length:=by omega
  subst e
  exact hl
theorem jm (a b:List Nat):(lK a b).length<=a.length:=by
 have:=@jM (fun i=>decide (Con (a.getD i 0) (b.getD i 0))) (min a.length b.length)
 unfold lK
 omega
theorem nv {a b:List Nat}{i:Nat}:i∈lK a b↔i<a.length/\i<b.length/\Con (a.getD i 0) (b.getD i 0):=by
 unfold lK
 rw[List.mem_filter,List.mem_range,decide_eq_true_eq,Nat.lt_min,and_assoc]
theorem xF {a b:Rsp} (h1:a.out.length<=1000) (h2:a.next.length<=1000) {K:List Nat×List Nat->Prop} (h:K (lK a.out b.out,lK a.next b.next)):cZ a b K:=by
 unfold cZ
 exact oO h1 (oO h2 h)
theorem xf {c:Circ} (C:Cir c) (pn:Nat->Nat->Nat->Nat) (t:List Nat):(fW c pn t).out.length<=1000/\(fW c pn t).next.length<=1000:=by
 have:=C.good.outsLen
 have:=eT c [14]
 have:=C.len
 unfold fW
 simp only[List.length_map]
 omega
def dOf (c:Circ) (s:Nat):Nat:=(insOf c s).getD 0 0
theorem xo (a:Nat):¬ Con a a:=fun h=>h.2.2 rfl
theorem kl {α:Type}{l:List α}{i:Nat}{x:α} (h:l[i]?=some x):l.take (i+1)=l.take i++[x]:=by
 obtain⟨h1,rfl⟩:=List.getElem?_eq_some_iff.1 h
 exact List.take_succ_eq_append_getElem h1
def tj (c:Circ) (i:Nat):List LnZ:=(List.range ((insOf c i).length+1)).map fun j=>⟨i,Int.ofNat j-Int.ofNat 1⟩
def gu (c:Circ) (i:Nat):List LnZ:=(List.range i).flatMap (tj c)
def qD (c:Circ):List LnZ:=gu c c.nodes.length
theorem ni (c:Circ) (i:Nat):gu c (i+1)=gu c i++tj c i:=by
 unfold gu
 rw[List.range_succ,List.flatMap_append]
 simp
theorem ph {c:Circ} (C:Cir c):∀ i,i<=c.nodes.length->(gu c i).length<=i*17
 |0,_=>by unfold gu;simp
 |i+1,h=>by
  have:=ph C i (by omega)
  obtain⟨x,hx⟩:=au (show i<c.nodes.length from h)
  have:=(C.good.node i x hx).few
  rw[ni,List.length_append]
  unfold tj
  rw[List.length_map,List.length_range,fE hx]
  omega
theorem uj {c:Circ} (C:Cir c) {K:List LnZ×Nat->Prop} (h:K (qD c,0)):cJ c K:=by
 have hlen:=C.len
 unfold cJ
 refine qg C ⟨(fun q=>absurd rfl (eL.1 q)),fun _=>?_⟩
 refine ay (fun s=>s.2<=c.nodes.length/\s.1=gu c s.2) (fun s=>c.nodes.length-s.2) (fun l=>l=qD c) ?_ ⟨Nat.zero_le _,rfl⟩ (fun _ e=>e ▸ h)
 rintro k ⟨l,i⟩ nx ⟨hi,hl⟩ hnx hk
 dsimp only at hi hl
 refine⟨fun q=>?_,fun q=>hk _ ?_⟩
 ·have q:i<c.nodes.length:=aJ.1 q
  obtain⟨x,hx⟩:=au q
  have hfew:=(C.good.node i x hx).few
  have hll:=ph C i hi
  refine eK (fun r=>r=gu c (i+1)) (fun k2 hk2=>⟨x,hx,by omega,?_⟩) ?_
  ·refine bn (fun s=>s.2<=x.ins.length+1/\s.1=gu c i++(tj c i).take s.2) (fun s=>x.ins.length+1-s.2) ?_ ⟨Nat.zero_le _,by simp[hl]⟩
   rintro⟨l,j⟩ nx ⟨hj,hl⟩ hnx
   dsimp only at hj hl
   refine⟨fun q=>?_,fun q=>hk2 _ ?_⟩
   ·have q:j<x.ins.length+1:=aJ.1 q
    have hg:(tj c i)[j]?=some ⟨i,Int.ofNat j-Int.ofNat 1⟩:=by
     unfold tj
     rw[List.getElem?_map,fE hx,List.getElem?_range q]
     rfl
    have hb:((tj c i).take j).length<=17:=by
     rw[List.length_take];omega
    refine⟨by simp only[Int.ofNat_eq_natCast];omega,by simp only[Int.ofNat_eq_natCast];omega,?_,by omega,hnx _ ⟨q,?_⟩ (by dsimp only;omega)⟩
    ·rw[hl,List.length_append,List.length_singleton];omega
    ·dsimp only
     rw[hl,List.append_assoc,kl hg]
   ·have q:x.ins.length+1<=j:=aU.1 q
    rw[hl,ni,List.take_of_length_le]
    unfold tj
    rw[List.length_map,List.length_range,fE hx]
    exact q
  ·rintro _ rfl
   exact⟨by omega,hnx _ ⟨q,rfl⟩ (by dsimp only;omega)⟩
 ·have q:c.nodes.length<=i:=aU.1 q
  have e:i=c.nodes.length:=by omega
  subst e
  exact hl
theorem tY {c:Circ} (C:Cir c) {p:Pat} (hp:PatOk c p) {K:Nat->Prop} (h:K 0):eP c p K:=by
 unfold eP
 exact vt C.good ⟨(fun q=>absurd rfl (eL.1 q)),fun _=>xu C hp h⟩
theorem bm {α:Type}{l:List α}{a b:α}:a∈l++[b]↔a∈l\/a=b:=by rw[List.mem_append,List.mem_singleton]
theorem ur {c:Circ}{l:LnZ}:l∈qD c↔l.node<c.nodes.length/\(l.pin=Int.negSucc 0\/∃ j,l.pin=Int.ofNat j/\j<(insOf c l.node).length):=by
 unfold qD gu tj
 rw[List.mem_flatMap]
 constructor
 ·rintro⟨i,hi,h⟩
  obtain⟨j,hj,rfl⟩:=List.mem_map.1 h
  have hi:=List.mem_range.1 hi
  have hj:=List.mem_range.1 hj
  refine⟨hi,?_⟩
  cases j with
  |zero=>exact .inl rfl
  |succ j=>exact .inr ⟨j,by simp only[Int.ofNat_eq_natCast];omega,by dsimp only;omega⟩
 ·obtain⟨n,q⟩:=l
  rintro⟨h1,h2⟩
  dsimp only at h1 h2
  refine⟨n,List.mem_range.2 h1,?_⟩
  rcases h2 with rfl|⟨j,rfl,hj⟩
  ·exact List.mem_map.2 ⟨0,List.mem_range.2 (by omega),rfl⟩
  ·exact List.mem_map.2 ⟨j+1,List.mem_range.2 (by omega),by simp only[Int.ofNat_eq_natCast,LnZ.mk.injEq,true_and];omega⟩
theorem wC {c:Circ}{l:LnZ} (hl:l∈qD c) {v:Nat} (hv:v<=1):StuckOk c ⟨0,l,v,0⟩:=by
 obtain⟨h1,h2⟩:=ur.1 hl
 refine⟨rfl,hv,rfl,h1,?_,?_⟩
 ·rcases h2 with e|⟨j,e,_⟩
  ·dsimp only;rw[e];decide
  ·dsimp only;rw[e];simp only[Int.ofNat_eq_natCast];omega
 ·rcases h2 with e|⟨j,e,hj⟩
  ·dsimp only;rw[e];exact Int.lt_of_lt_of_le (show Int.negSucc 0<0 by decide) (Int.natCast_nonneg _)
  ·dsimp only;rw[e];simp only[Int.ofNat_eq_natCast];omega
def eC:Circ:=⟨[⟨0,[],0,0⟩,⟨0,[],0,0⟩,⟨5,[0,1],0,0⟩],[⟨#[97]⟩,⟨#[98]⟩,⟨#[121]⟩],[],[2]⟩
theorem wF:(([⟨#[97]⟩,⟨#[98]⟩,⟨#[121]⟩]:List ByteArray).all fun s=>isTrue (nq Tryz.prog [] (mj Tryz.prog) 60 140 #[.string s] (dP vars)))=true:=by kernel_rfl
theorem zL {s:ByteArray} (h:s∈([⟨#[97]⟩,⟨#[98]⟩,⟨#[121]⟩]:List ByteArray)):AY s:=by
 obtain⟨h',e⟩:=qS (List.all_eq_true.1 wF s h)
 have c:=(gC hM hP (fun f vs h v e=>hG f vs h v e) 60 _ _ _ _ _ e).1
 exact⟨PureV.qe rfl,fun h b=>c.lift (by kernel_rfl) rfl (kb (tE b) (nF b))⟩
theorem sw {i:Nat}{x:Node} (h:eC.nodes[i]?=some x):(i=0/\x=⟨0,[],0,0⟩)\/(i=1/\x=⟨0,[],0,0⟩)\/(i=2/\x=⟨5,[0,1],0,0⟩):=by
 have hi:=ak h
 have hi:i<3:=hi
 have:i=0\/i=1\/i=2:=by omega
 rcases this with rfl|rfl|rfl
 ·cases h;exact .inl ⟨rfl,rfl⟩
 ·cases h;exact .inr (.inl ⟨rfl,rfl⟩)
 ·cases h;exact .inr (.inr ⟨rfl,rfl⟩)
theorem rf:Cir eC:=by
 have node:∀ i x,eC.nodes[i]?=some x->GoodN eC i x:=by
  intro i x h
  rcases sw h with⟨rfl,rfl⟩|⟨rfl,rfl⟩|⟨rfl,rfl⟩
  ·exact⟨(by decide:0<=15),(by decide:Arity 0 0),(fun k m=>by cases m),(fun e=>by cases e),fun _=>⟨rfl,rfl⟩,(fun e=>by cases e),fun e=>absurd e (by decide:¬ 1<=0)⟩
  ·exact⟨(by decide:0<=15),(by decide:Arity 0 0),(fun k m=>by cases m),(fun e=>by cases e),fun _=>⟨rfl,rfl⟩,(fun e=>by cases e),fun e=>absurd e (by decide:¬ 1<=0)⟩
  ·exact⟨(by decide:5<=15),(by decide:Arity 5 2),(by decide:∀ k∈[0,1],k<3),(fun e=>by cases e),fun _=>⟨rfl,rfl⟩,(fun e=>by cases e),fun _ _=>(by decide:∀ k∈[0,1],k<2)⟩
 have F:FanOk eC:=zX ⟨by decide,fun i x h=>⟨(node i x h).ins,(node i x h).few⟩⟩
 have N:NamesOk eC:=by
  refine FnV.pQ (enc:=i64) (PureV.flat rfl) fun h hB=>?_
  exact kN (K:=fun r=>r=0) (nc (fun s m=>zL m) (by decide) (by decide) rfl) hB
 refine⟨⟨by decide,rfl,N,F,(fun m h=>by cases h),by decide,by decide,by decide,node,by decide⟩,rfl,fun i x h=>?_⟩
 rcases sw h with⟨rfl,rfl⟩|⟨rfl,rfl⟩|⟨rfl,rfl⟩ <;> decide
structure N2 where
 a:Nat
 b:Nat
deriving DecidableEq
structure Rul where
 pin:Nat
 out:Nat
structure Sus where
 fault:Nat
 both:Nat
 missed:Nat
 extra:Nat
deriving DecidableEq
def dO (x:Sus):Value:=.agg ⟨[i64 x.fault,i64 x.both,i64 x.missed,i64 x.extra]⟩
theorem xV (x:Sus):aj (cl (dO x)):=aj.cons (PureV.flat rfl) (aj.cons (PureV.flat rfl) (aj.cons (PureV.flat rfl) (aj.cons (PureV.flat rfl) aj.nil)))
theorem fwM {f:FuncId}{fn:Func}{c:Code} (hf:Tryz.prog.funcs[f]?=some fn) {vs:Array Value}{h:Heap} (hB:HasB vars h) {R:Type}{enc:R->Value} (hp:∀ r,PureV (enc r)) {r0:R}
  (hk:Own vars h [] h->CodeM Tryz.prog NG c (cW fn.ntmps vs) h fun x e1 h1=>match x with
   |.exit _=>False
   |_=>kp Tryz.prog e1 h1 fn.results.toList fun vs=>∃ r,r=r0/\Ext h h1/\∀ h2,Frozen h.size h1 h2->VLe h2 (rT vs) (enc r))
  (hb:fn.body=some c:=by exact rfl) (hs:Nat.ble vs.size fn.ntmps=true:=by exact rfl):CallD Tryz.prog NG f vs h (enc r0) h:=by
 refine fnM hM hf hb (hP _ _ rfl hf) (Nat.le_of_ble_eq_true hs) hB (hp r0) fun O=>(hk O).mono ?_
 intro x e1 h1 k
 cases x with
 |exit id=>exact k.elim
 |normal=>exact lp (fun vs q=>by obtain⟨r,rfl,q⟩:=q;exact q) k
 |ret=>exact lp (fun vs q=>by obtain⟨r,rfl,q⟩:=q;exact q) k
structure FailZ where
 test:Int
 next:Bool
 index:Int
deriving DecidableEq
def ar (x:FailZ):Value:=.agg ⟨[z64 x.test,.bool x.next,z64 x.index]⟩
theorem mO (x:FailZ):aj (cl (ar x)):=aj.cons (PureV.flat rfl) (aj.cons (PureV.flat rfl) (aj.cons (PureV.flat rfl) aj.nil))
theorem jH {kd:TypeDesc} (hk:eo kd=false) (a b:FailZ):eV Tryz.prog 76 kd (ar a) (ar b)=some (decide (a=b)):=by
 have he:km Tryz.prog 76 (ar a) (ar b)=some ((a.test==b.test)&&((a.next==b.next)&&((a.index==b.index)&&true))):=by kernel_rfl
 have hd:decide (a=b)=((a.test==b.test)&&((a.next==b.next)&&((a.index==b.index)&&true))):=by
  rw[Bool.eq_iff_iff]
  simp only[decide_eq_true_eq,Bool.and_eq_true,beq_iff_eq,Bool.and_true]
  cases a;cases b
  simp
 rw[hd]
 refine vX hk he rfl rfl fun h=>?_
 have:a=b:=by rw[<- hd] at h;exact of_decide_eq_true h
 subst this
 simp[ox,zc,z64]
end Go.Proofs.YteceaohcjmbfbaaGreatDoor
