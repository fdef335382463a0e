/-
  Y9, Ya, SuspectsBack: parts of the proof.
-/
import Derived.Test.YteceaohcjmbfbaaGreatDoorSe50
namespace Go.Proofs.YteceaohcjmbfbaaGreatDoor
open Go.Abs
set_option maxRecDepth 100000
theorem ve {c:Circ}{R:Pat->Rsp}{tests:List Pat}{k:Nat}{x:FailZ}:x∈rX c R tests k ↔ ∃ j,(x=mkF k false j/\j∈lK (cC c (tests.getD k ⟨[],[]⟩)).out (R (tests.getD k ⟨[],[]⟩)).out)\/(x=mkF k true j/\j∈lK (cC c (tests.getD k ⟨[],[]⟩)).next (R (tests.getD k ⟨[],[]⟩)).next):=by
 unfold rX
 rw[List.mem_append,List.mem_map,List.mem_map]
 constructor
 ·rintro (⟨j,h,rfl⟩|⟨j,h,rfl⟩)
  ·exact⟨j,.inl ⟨rfl,h⟩⟩
  ·exact⟨j,.inr ⟨rfl,h⟩⟩
 ·rintro⟨j,(⟨rfl,h⟩|⟨rfl,h⟩)⟩
  ·exact .inl ⟨j,h,rfl⟩
  ·exact .inr ⟨j,h,rfl⟩
theorem uq {c:Circ}{R:Pat->Rsp}{tests:List Pat}{x:FailZ}:x∈oF c R tests ↔ ∃ k,k<tests.length/\x∈rX c R tests k:=by
 unfold oF kv
 rw[List.mem_flatMap]
 constructor
 ·rintro⟨k,h1,h2⟩;exact⟨k,List.mem_range.1 h1,h2⟩
 ·rintro⟨k,h1,h2⟩;exact⟨k,List.mem_range.2 h1,h2⟩
theorem xW {c:Circ} (C:Cir c) (R:Pat->Rsp) (tests:List Pat) (k:Nat):(rX c R tests k).length<=32:=by
 have h1:=jm (cC c (tests.getD k ⟨[],[]⟩)).out (R (tests.getD k ⟨[],[]⟩)).out
 have h2:=jm (cC c (tests.getD k ⟨[],[]⟩)).next (R (tests.getD k ⟨[],[]⟩)).next
 have e1:(cC c (tests.getD k ⟨[],[]⟩)).out.length=c.outs.length:=by unfold cC fW;simp
 have e2:(cC c (tests.getD k ⟨[],[]⟩)).next.length=(ofN c [14]).length:=by unfold cC fW;simp
 have h3:=C.good.outsLen
 have h4:=eT c [14]
 have h5:=C.len
 unfold rX
 rw[List.length_append,List.length_map,List.length_map]
 omega
theorem qc {c:Circ} (C:Cir c) (R:Pat->Rsp) (tests:List Pat):∀ n,(kv c R tests n).length<=n*32
 |0=>by unfold kv;simp
 |n+1=>by
  have:=qc C R tests n
  have:=xW C R tests n
  rw[mu,List.length_append]
  omega
theorem mI {c:Circ} (C:Cir c) {p:Pat} (hp:PatOk c p) {f:Flt} (F:StuckOk c f):∀ n a,a<n->a<c.nodes.length->¬ Dep c a f.line.node->(kO c p f).getD a 0=(gE c p).getD a 0
 |0,a,h,_,_=>absurd h (Nat.not_lt_zero _)
 |n+1,a,h,ha,hd=>by
  have V:Sol c p idN idP (gE c p):=jk C hp nP fb
  have T:Sol c p (ntF f) (pnF f) (kO c p f):=jk C hp (vS F.value) (wG F.value)
  obtain⟨x,hx⟩:=au ha
  have hne:a≠f.line.node:=fun e=>hd (e ▸ .refl _)
  rw[V.val a x hx,T.val a x hx]
  have e1:∀ v,ntF f a v=v:=fun v=>by
   unfold ntF
   split
   ·unfold oq;rw[if_neg hne]
   ·rfl
  rw[e1]
  show baseV c p (pnF f) (kO c p f) a x=baseV c p idP (gE c p) a x
  unfold baseV
  split
  ·rename_i hc
   congr 1
   unfold ft
   refine List.ext_getElem? fun j=>?_
   rw[List.getElem?_mapIdx,List.getElem?_mapIdx]
   cases hm:x.ins[j]? with
   |none=>rfl
   |some m =>
    have hmem:=List.mem_of_getElem? hm
    have h14:x.kind≠14:=by have:=(of_decide_eq_true hc).2;omega
    have hma:=nE C hx h14 hmem
    have ih:=mI C hp F n m (by omega) (by omega) fun d=>hd (.step hx h14 hmem d)
    have e2:∀ v,pnF f a j v=v:=fun v=>by
     unfold pnF
     split
     ·rfl
     ·unfold mv;rw[if_neg (fun q=>hne q.1)]
    show some (pnF f a j ((kO c p f).getD m 0))=some (idP a j ((gE c p).getD m 0))
    rw[e2,ih];rfl
  ·rfl
theorem ug {c:Circ} (C:Cir c) {s:Nat} (hs:s∈ofN c [14]):∃ x,c.nodes[s]?=some x/\x.kind=14/\dOf c s<c.nodes.length/\x.ins[0]?=some (dOf c s):=by
 obtain⟨h1,h2⟩:=cB.1 hs
 obtain⟨x,hx⟩:=au h1
 rw[gL hx] at h2
 have ha:x.ins.length=1:=by have:=(C.good.node s x hx).arity;rw[h2] at this;exact oc this
 have hg:x.ins[0]?=some (dOf c s):=by
  unfold dOf
  rw[fE hx]
  exact getD_some (by omega)
 exact⟨x,hx,h2,(C.good.node s x hx).ins _ (List.mem_of_getElem? hg),hg⟩
theorem Ae {n i:Nat}{p:Nat->Bool} (hi:i<n) (hp:p i=true):((List.range n).filter p)[((List.range i).filter p).length]?=some i:=by
 have e:List.range n=List.range (i+1)++(List.range (n-(i+1))).map (fun x=>(i+1)+x):=by
  rw[<- List.range_add]
  congr 1
  omega
 rw[e,List.filter_append,lW,if_pos hp,List.append_assoc,List.getElem?_append_right (Nat.le_refl _),Nat.sub_self]
 rfl
theorem BI {f:Flt}{s j v:Nat} (h:s≠f.line.node):pnF f s j v=v:=by
 unfold pnF
 split
 ·rfl
 ·unfold mv;rw[if_neg (fun q=>h q.1)]
theorem wP {c:Circ}{pn:Nat->Nat->Nat->Nat}{t:List Nat}{j o:Nat} (h:c.outs[j]?=some o):(fW c pn t).out.getD j 0=t.getD o 0:=by
 unfold fW
 rw[List.getD,List.getElem?_map,h];rfl
theorem ud {c:Circ}{pn:Nat->Nat->Nat->Nat}{t:List Nat}{j s:Nat} (h:(ofN c [14])[j]?=some s):(fW c pn t).next.getD j 0=min (pn s 0 (t.getD (dOf c s) 0)) 2:=by
 unfold fW
 rw[List.getD,List.getElem?_map,h];rfl
theorem qZ (c:Circ) (pn:Nat->Nat->Nat->Nat) (t:List Nat):(fW c pn t).out.length=c.outs.length/\(fW c pn t).next.length=(ofN c [14]).length:=by
 unfold fW
 exact⟨List.length_map _,List.length_map _⟩
theorem uR {c:Circ}{R:Pat->Rsp}{tests:List Pat}{x:FailZ} (h:x∈oF c R tests):FailOk c x:=by
 obtain⟨k,_,h⟩:=uq.1 h
 have hl:=qZ c idP (gE c (tests.getD k ⟨[],[]⟩))
 obtain⟨j,(⟨rfl,hj⟩|⟨rfl,hj⟩)⟩:=ve.1 h
 ·refine⟨by unfold mkF;simp,j,rfl,?_⟩
  have:=(nv.1 hj).1
  unfold cC at this
  rw[hl.1] at this
  exact this
 ·refine⟨by unfold mkF;simp,j,rfl,?_⟩
  have:=(nv.1 hj).1
  unfold cC at this
  rw[hl.2] at this
  exact this
theorem uT {c:Circ} (C:Cir c) {f:Flt} (F:StuckOk c f) {tests:List Pat} (ht:∀ p∈tests,PatOk c p) {x:FailZ} (h:x∈oF c (rQ c f) tests):dh c x f.line.node:=by
 have hlen:=C.len
 obtain⟨k,hk,h⟩:=uq.1 h
 obtain⟨p,hp⟩:=au hk
 have hpm:=ht p (List.mem_of_getElem? hp)
 have eR:rQ c f p=fW c (pnF f) (kO c p f):=if_pos F.model
 obtain⟨j,(⟨rfl,hj⟩|⟨rfl,hj⟩)⟩:=ve.1 h
 ·rw[zz hp,eR] at hj
  obtain⟨q1,_,q2⟩:=nv.1 hj
  unfold cC at q1 q2
  rw[(qZ c idP (gE c p)).1] at q1
  obtain⟨o,ho⟩:=au q1
  rw[wP ho,wP ho] at q2
  unfold dh
  rw[if_neg (by unfold mkF;simp)]
  have:c.outs.getD (mkF k false j).index.toNat 0=o:=by show c.outs.getD j 0=o;rw[List.getD,ho];rfl
  rw[this]
  refine Classical.byContradiction fun hd=>?_
  have hon:o<c.nodes.length:=C.good.outs o (List.mem_of_getElem? ho)
  rw[mI C hpm F (o+1) o (Nat.lt_succ_self _) hon hd] at q2
  exact xo _ q2
 ·rw[zz hp,eR] at hj
  obtain⟨q1,_,q2⟩:=nv.1 hj
  unfold cC at q1 q2
  rw[(qZ c idP (gE c p)).2] at q1
  obtain⟨s,hs⟩:=au q1
  rw[ud hs,ud hs] at q2
  unfold dh
  rw[if_pos (by unfold mkF;rfl)]
  have:(ofN c [14]).getD (mkF k true j).index.toNat 0=s:=by show (ofN c [14]).getD j 0=s;rw[List.getD,hs];rfl
  rw[this]
  by_cases e:f.line.node=s
  ·exact .inl e
  ·right
   refine Classical.byContradiction fun hd=>?_
   obtain⟨y,hy,_,hd0,_⟩:=ug C (List.mem_of_getElem? hs)
   rw[BI (fun q=>e q.symm),mI C hpm F (dOf c s+1) (dOf c s) (Nat.lt_succ_self _) hd0 hd] at q2
   exact xo _ q2
theorem pw {y:CaseD} (Y:CaseB y) {w:Nat} (hw:w<256) {K:Bool->Prop} (h:K true):bp y w K:=by
 unfold bp
 refine⟨Nat.min_le_left _ _,Nat.min_le_left _ _,Bx Y 20 40 fun c l tests O h1 h2 h3 h4=>?_⟩
 dsimp only
 have C:=O.cir
 have hlen:=C.len
 refine⟨fun _=>pZ h,fun e=>?_⟩
 have hpos:0<l.length:=Nat.pos_of_ne_zero (bM.1 e)
 have hi:w%l.length<l.length:=Nat.mod_lt _ hpos
 obtain⟨f,hf⟩:=au hi
 have FO:=O.flt f (List.mem_of_getElem? hf)
 have F:=FO.ok C
 have hll:(oF c (rQ c f) tests).length<=tests.length*32:=qc C (rQ c f) tests tests.length
 refine⟨hw,hpos,f,hf,Bq C F O.pat h4 (wY C (by omega) (fun x m=>uR m) fun p hp=>?_)⟩
 dsimp only at hp ⊢
 have hst:f.model=0->∀ x∈oF c (rQ c f) tests,dh c x f.line.node:=by
  intro hm x hx
  rcases FO with S|S
  ·exact uT C S O.pat hx
  ·exact absurd hm (by have:=S.model;omega)
 have hfo:∀ x∈oF c (rQ c f) tests,FailOk c x:=fun x m=>uR m
 generalize oF c (rQ c f) tests=log at hll hp hst hfo ⊢
 have hfl:((List.range c.nodes.length).filter p).length<=c.nodes.length:=jM
 refine yW (fun k9 hk9=>⟨fun q=>absurd rfl (eL.1 q),fun _=>⟨fun q=>absurd rfl (eL.1 q),fun _=>hk9 _ (pv.2 rfl)⟩⟩) ⟨(fun q=>by cases q),fun _=>ic (by omega) ?_⟩
 refine ay (fun s=>s.2<=c.nodes.length/\s.1=((List.range s.2).filter p).length) (fun s=>c.nodes.length-s.2) (fun k=>k=((List.range c.nodes.length).filter p).length) ?_ ⟨Nat.zero_le _,rfl⟩ (fun _ e=>⟨fun _=>pZ h,fun q=>absurd e (bM.1 q)⟩)
 rintro k ⟨m,n⟩ nx ⟨hn,hm⟩ hnx hk
 dsimp only at hn hm
 refine⟨fun q=>?_,fun q=>hk _ ?_⟩
 ·have q:n<c.nodes.length:=aJ.1 q
  have hml:m<=n:=by rw[hm];exact jM
  refine bx (a:=((List.range (n+1)).filter p).length) (fun g=>?_) ⟨by omega,hnx _ ⟨q,rfl⟩ (by dsimp only;omega)⟩
  refine eK (fun b:Bool=>b=true ↔ ∀ x∈log,dh c x n) (fun k2 hk2=>?_) fun b hb=>?_
  ·refine bn (fun s=>s.2<=log.length/\(s.1=true ↔ ∀ x∈log.take s.2,dh c x n)) (fun s=>log.length-s.2) ?_ ⟨Nat.zero_le _,⟨(fun _ x m=>by cases m),fun _=>rfl⟩⟩
   rintro⟨v,i⟩ nx2 ⟨hi2,hv⟩ hnx2
   dsimp only at hi2 hv
   refine⟨fun q2=>?_,fun q2=>hk2 _ ?_⟩
   ·have q2:i<log.length:=aJ.1 q2
    obtain⟨x,hx⟩:=au q2
    have hxo:=hfo x (List.mem_of_getElem? hx)
    have snoc:∀ {b:Bool},(b=true↔v=true/\dh c x n)->(b=true ↔ ∀ z∈log.take (i+1),dh c z n):=by
     intro b hb
     rw[hb,hv,kl hx]
     constructor
     ·rintro⟨g1,g2⟩ z hz
      rcases bm.1 hz with hz|rfl
      ·exact g1 z hz
      ·exact g2
     ·exact fun g1=>⟨fun z hz=>g1 z (bm.2 (.inl hz)),g1 x (bm.2 (.inr rfl))⟩
    refine eK (fun b:Bool=>b=true ↔ ∀ z∈log.take (i+1),dh c z n) (fun k3 hk3=>⟨x,hx,fun e1=>?_,fun e1=>?_⟩) fun b hb=>⟨by omega,hnx2 _ ⟨q2,hb⟩ (by dsimp only;omega)⟩
    ·obtain⟨_,j,hj1,hj2⟩:=hxo
     rw[if_pos e1] at hj2
     obtain⟨s,hs⟩:=au hj2
     obtain⟨z,hz,hz14,hd0,hzi⟩:=ug C (List.mem_of_getElem? hs)
     have hC:dh c x n↔n=s\/Dep c (dOf c s) n:=by
      unfold dh
      rw[if_pos e1,hj1]
      have:(ofN c [14]).getD (Int.ofNat j).toNat 0=s:=by show (ofN c [14]).getD j 0=s;rw[List.getD,hs];rfl
      rw[this]
     refine⟨x,hx,fun e2=>?_,fun _=>⟨x,hx,j,hj1,s,hs,fun ev=>⟨fun e3=>?_,fun e3=>⟨z,hz,dOf c s,hzi,ux C hd0 (fun d=>hk3 _ (snoc ?_)) (fun d=>hk3 _ (snoc ?_))⟩⟩,fun ev=>hk3 _ (snoc ?_)⟩⟩
     ·rw[hj1,show ltI (Int.ofNat j) (Int.ofNat (ofN c [14]).length)=true from lY.2 (by simp only[Int.ofNat_eq_natCast];omega)] at e2
      cases e2
     ·refine hk3 _ (snoc ?_)
      exact⟨fun _=>⟨ev,hC.2 (.inl (bo.1 e3).symm)⟩,fun _=>rfl⟩
     ·exact⟨fun _=>⟨ev,hC.2 (.inr d)⟩,fun _=>rfl⟩
     ·exact⟨(fun q=>by cases q),fun q=>((hC.1 q.2).elim (fun e=>bM.1 e3 e.symm) d).elim⟩
     ·exact⟨(fun q=>by cases q),fun q=>by have ev:v=false:=ev;rw[ev] at q;cases q.1⟩
    ·obtain⟨_,j,hj1,hj2⟩:=hxo
     rw[if_neg (by rw[e1];simp)] at hj2
     obtain⟨o,ho⟩:=au hj2
     have hC:dh c x n↔Dep c o n:=by
      unfold dh
      rw[if_neg (by rw[e1];simp),hj1]
      have:c.outs.getD (Int.ofNat j).toNat 0=o:=by show c.outs.getD j 0=o;rw[List.getD,ho];rfl
      rw[this]
     have hon:o<c.nodes.length:=C.good.outs o (List.mem_of_getElem? ho)
     refine⟨x,hx,fun e2=>?_,fun _=>⟨fun ev=>⟨x,hx,j,hj1,o,ho,ux C hon (fun d=>hk3 _ (snoc ?_)) (fun d=>hk3 _ (snoc ?_))⟩,fun ev=>hk3 _ (snoc ?_)⟩⟩
     ·rw[hj1,show ltI (Int.ofNat j) (Int.ofNat c.outs.length)=true from lY.2 (by simp only[Int.ofNat_eq_natCast];omega)] at e2
      cases e2
     ·exact⟨fun _=>⟨ev,hC.2 d⟩,fun _=>rfl⟩
     ·exact⟨(fun q=>by cases q),fun q=>(d (hC.1 q.2)).elim⟩
     ·exact⟨(fun q=>by cases q),fun q=>by have ev:v=false:=ev;rw[ev] at q;cases q.1⟩
   ·have q2:log.length<=i:=aU.1 q2
    rw[List.take_of_length_le q2] at hv
    exact hv
  ·have hbp:b=p n:=by
    rw[Bool.eq_iff_iff,hb,hp n q]
   refine yW (fun k9 hk9=>⟨fun e1=>⟨fun e2=>?_,fun _=>hk9 _ rfl⟩,fun _=>hk9 _ rfl⟩) ⟨(fun e=>by cases e),fun _=>⟨fun eb=>?_,fun eb=>?_⟩⟩
   ·have e2:=bo.1 e2
    have:=hb.2 (by have:=hst (bo.1 e1);rw[e2] at this;exact this)
    exact hk9 _ (by rw[this];rfl)
   ·rw[hbp] at eb
    have hg:((List.range c.nodes.length).filter p)[m]?=some n:=by
     rw[hm]
     exact Ae q eb
    have hml2:=ak hg
    refine yW (fun k9 hk9=>⟨fun e=>absurd (jz.1 e) (by omega),fun _=>⟨n,hg,hk9 _ (pv.2 rfl)⟩⟩) ⟨(fun e=>by cases e),fun _=>⟨by omega,?_⟩⟩
    rw[lW,if_pos eb,List.length_append,<- hm] at g
    exact g
   ·rw[hbp] at eb
    rw[lW,if_neg (by rw[eb];decide),List.append_nil,<- hm] at g
    exact g
 ·have q:c.nodes.length<=n:=aU.1 q
  have:n=c.nodes.length:=by omega
  subst this
  exact hm
def dy:List (Sh×Bool):=[(qp,true),(shB,false)]
theorem nK (x:yw dy) (w:wfL dy x):FnV Tryz.prog NG vars 7 ⟨zC dy x⟩ (.bool true):=by
 obtain⟨c,n,u⟩:=x
 obtain⟨wc,wn,_⟩:=w
 obtain⟨y,hy,e1⟩:=yJ wc
 obtain⟨n,hn,rfl⟩:=cA wn
 have e:zC dy (c,Int.ofNat n,u)=[pJ y,n8 n]:=by
  show [elV (!true) (qp.aM c),elV (!false) (shB.aM (Int.ofNat n))]=_
  rw[e1];rfl
 rw[e]
 exact FnV.pQ (enc:=Value.bool) (r:=true) (PureV.flat rfl) fun h hB=>fV (K:=fun r=>r=true) (pw hy hn rfl) hB
end Go.Proofs.YteceaohcjmbfbaaGreatDoor
