/-
  AbsB: parts of the proof.
-/
import Derived.Test.YtgiedjgdlckahaaGreatDoorTk00
namespace Go.Abs
def aS (ι:Inj) (xs ys:List Value):Prop:=xs.length=ys.length/\∀ i:Nat,VRel ι (xs.getD i undef) (ys.getD i undef)
def bm (ι:Inj) (xs ys:Array Value):Prop:=xs.size=ys.size/\∀ i:Nat,VRel ι (xs.getD i undef) (ys.getD i undef)
theorem dW (xs:Array Value) (i:Nat):xs.toList.getD i undef=xs.getD i undef:=by
 simp[List.getD,Array.getD_eq_getD_getElem?]
theorem bm.list {ι:Inj}{xs ys:Array Value} (h:bm ι xs ys):aS ι xs.toList ys.toList :=
 ⟨by simpa using h.1,fun i=>by rw[dW,dW];exact h.2 i⟩
theorem aS.array {ι:Inj}{xs ys:List Value} (h:aS ι xs ys):bm ι xs.toArray ys.toArray :=
 ⟨by simpa using h.1,fun i=>by rw[<- dW,<- dW];exact h.2 i⟩
theorem bm.im {ι:Inj}{xs ys:Array Value}:bm ι xs ys↔aS ι xs.toList ys.toList :=
 ⟨bm.list,fun h=>by have:=h.array;simpa using this⟩
theorem aS.nil (ι:Inj):aS ι [] []:=⟨rfl,fun i=>by simpa using VRel.nothing ι⟩
theorem aS.cons {ι:Inj}{x y:Value}{xs ys:List Value} (h:VRel ι x y) (r:aS ι xs ys):aS ι (x::xs) (y::ys) :=
 ⟨by simp[r.1],fun i=>by cases i with
  |zero=>simpa using h
  |succ i=>simpa using r.2 i⟩
theorem bm.mono {ι ι':Inj} (h:Inj.Le ι ι') {xs ys:Array Value} (r:bm ι xs ys):bm ι' xs ys :=
 ⟨r.1,fun i=>(r.2 i).mono h⟩
theorem aS.get {ι:Inj}{xs ys:List Value} (r:aS ι xs ys) {i:Nat}{v:Value} (e:xs[i]?=some v):∃ v',ys[i]?=some v'/\VRel ι v v':=by
 have hi:i<xs.length:=(List.getElem?_eq_some_iff.1 e).1;have hi':i<ys.length:=r.1 ▸ hi;have:=r.2 i;simp only[List.getD,e,Option.getD_some,List.getElem?_eq_getElem hi'] at this;exact⟨ys[i],List.getElem?_eq_getElem hi',this⟩
theorem aS.lL {ι:Inj}{xs ys:List Value} (h:xs.length=ys.length) (r:∀ (i:Nat) (v v':Value),xs[i]?=some v->ys[i]?=some v'->VRel ι v v'):aS ι xs ys:=by
 refine⟨h,fun i=>?_⟩;by_cases hi:i<xs.length
 ·have hi':i<ys.length:=h ▸ hi;simp only[List.getD,List.getElem?_eq_getElem hi,List.getElem?_eq_getElem hi',Option.getD_some];exact r i _ _ (List.getElem?_eq_getElem hi) (List.getElem?_eq_getElem hi')
 ·have hi':¬ i<ys.length:=h ▸ hi;simp only[List.getD,List.getElem?_eq_none (Nat.le_of_not_lt hi),List.getElem?_eq_none (Nat.le_of_not_lt hi'),Option.getD_none];exact VRel.nothing ι
theorem aS.append {ι:Inj}{xs ys xs' ys':List Value} (r:aS ι xs ys) (r':aS ι xs' ys'):aS ι (xs++xs') (ys++ys'):=by
 refine aS.lL (by simp[r.1,r'.1]) fun i v v' e e'=>?_;by_cases hi:i<xs.length
 ·have hi':i<ys.length:=r.1 ▸ hi;rw[List.getElem?_append_left hi] at e;rw[List.getElem?_append_left hi'] at e';obtain⟨u,hu,q⟩:=r.get e;rw[hu] at e';cases e';exact q
 ·rw[List.getElem?_append_right (Nat.le_of_not_lt hi)] at e;have hl:=r.1;rw[List.getElem?_append_right (by omega)] at e';obtain⟨u,hu,q⟩:=r'.get e;rw[<- r.1,hu] at e';cases e';exact q
theorem aS.take {ι:Inj}{xs ys:List Value} (r:aS ι xs ys) (n:Nat):aS ι (xs.take n) (ys.take n):=by
 refine aS.lL (by simp[r.1]) fun i v v' e e'=>?_;rw[List.getElem?_take] at e e';split at e
 ·rename_i h;rw[if_pos h] at e';obtain⟨u,hu,q⟩:=r.get e;rw[hu] at e';cases e';exact q
 ·cases e
theorem aS.drop {ι:Inj}{xs ys:List Value} (r:aS ι xs ys) (n:Nat):aS ι (xs.drop n) (ys.drop n):=by
 refine aS.lL (by simp[r.1]) fun i v v' e e'=>?_;rw[List.getElem?_drop] at e e';obtain⟨u,hu,q⟩:=r.get e;rw[hu] at e';cases e';exact q
variable {N:Nat}
theorem HRel.write {ι:Inj}{h:Heap}{w w':World} (H:HRel N ι h w) {g:Nat}{l:Loc} (e:ι g=some l) (m:h.mut g) {o':AObj}
  (hs:w'.heap.size=w.heap.size) (ho:∀ b,b≠l.blk->w'.heap[b]?=w.heap[b]?) (hr:ORel ι l o' w'.heap[l.blk]?)
  (out:w'.output=w.output/\w'.os=w.os/\w'.tape=w.tape/\w.drawn<=w'.drawn) (hm':∀ cs,o'≠.cells cs true:=by intro cs hc;cases hc) :
  HRel N ι (h.upd g o') w'/\Step ι h w ι (h.upd g o') w':=by
 have hg:g<h.size:=H.dom g l e
 have back:∀ k,(h.upd g o').mut k->h.mut k:=by
  intro k ⟨o,h1,h2⟩;rw[Heap.bF _ _ _ _ hg] at h1;by_cases q:k=g
  ·subst q;exact m
  ·rw[if_neg q] at h1;exact⟨o,h1,h2⟩
 refine⟨⟨H.dom,fun g' l' e'=>hs ▸ H.blk g' l' e',H.glob,?_,?_,fun b C e1=>?_,fun b C g1 l1 e1 e2 m1=>H.fzap b C g1 l1 e1 e2 (back _ m1),fun g1 l1 cs e1 e2=>?_⟩,?_⟩;rotate_left 2
 ·rw[ho b (Ne.symm (H.fzap b C g l e1 e m))];exact H.frz b C e1
 ·rw[Heap.bF _ _ _ _ hg] at e2;by_cases q:g1=g
  ·rw[if_pos q] at e2
   cases e2
   exact absurd rfl (hm' cs)
  ·rw[if_neg q] at e2;exact H.rofz g1 l1 cs e1 e2
 rotate_right 2
 ·intro g' l' o e1 e2;rw[Heap.bF _ _ _ _ hg] at e2;by_cases q:g'=g
  ·subst q;rw[e] at e1;cases e1;simp only[if_true] at e2;cases e2;exact hr
  ·rw[if_neg q] at e2;have hl:o.live=true->l'.blk≠l.blk:=fun hl=>Ne.symm (H.apart g g' l l' e e1 (Ne.symm q) m ⟨o,e2,hl⟩)
   cases o with
   |dead=>trivial
   |cells cs ro=>rw[ho _ (hl rfl)];exact H.obj g' l' _ e1 e2
   |map es=>rw[ho _ (hl rfl)];exact H.obj g' l' _ e1 e2
   |iter s pos=>rw[ho _ (hl rfl)];exact H.obj g' l' _ e1 e2
   |rng g3 seen n=>rw[ho _ (hl rfl)];exact H.obj g' l' _ e1 e2
 ·intro g1 g2 l1 l2 e1 e2 hne m1 l2'
  have back':∀ k,(h.upd g o').live k->h.live k:=by
   intro k ⟨o,h1,h2⟩;rw[Heap.bF _ _ _ _ hg] at h1;by_cases q:k=g
   ·subst q;exact m.live
   ·rw[if_neg q] at h1;exact⟨o,h1,h2⟩
  exact H.apart g1 g2 l1 l2 e1 e2 hne (back _ m1) (back' _ l2')
 ·refine⟨H.dom,Nat.le_refl _,Inj.Le.refl ι,fun k l e1 e2=>(by rw[e2] at e1;cases e1),fun k l e1 e2=>(by rw[e2] at e1;cases e1),?_,?_,Nat.le_of_eq hs.symm,?_,?_,out,fun b C e1 e2=>(by rw[e2] at e1;cases e1)⟩
  ·intro k hk ⟨o,h1,h2⟩;rw[Heap.bF _ _ _ _ hg] at h1;by_cases q:k=g
   ·subst q;exact m
   ·rw[if_neg q] at h1;exact⟨o,h1,h2⟩
  ·intro k hk ⟨o,h1,h2⟩;rw[Heap.bF _ _ _ _ hg] at h1;by_cases q:k=g
   ·subst q;exact m.live
   ·rw[if_neg q] at h1;exact⟨o,h1,h2⟩
  ·intro b _ hn;exact ho b (Ne.symm (hn g l e m))
  ·intro k _ e1;rw[Heap.bF _ _ _ _ hg,if_neg (by intro q;subst q;rw[e] at e1;cases e1)]
def Inj.add (ι:Inj) (g:Nat) (l:Loc):Inj:=⟨fun k=>if k=g then some l else ι k,ι.fz⟩
def Inj.frozen (ι:Inj) (b:Nat) (C:Array Value):Inj:=⟨ι.at_,fun k=>if k=b then some C else ι.fz k⟩
theorem Inj.add_get (ι:Inj) (g:Nat) (l:Loc) (k:Nat):(ι.add g l) k=if k=g then some l else ι k:=rfl
theorem Inj.kn {ι:Inj}{g:Nat}{l:Loc} (h:ι g=none):Inj.Le ι (ι.add g l):=by
 refine⟨fun k l' e=>?_,fun _ _ e=>e⟩;rw[Inj.add_get,if_neg (by intro q;subst q;rw[h] at e;cases e)];exact e
theorem HRel.dQ {ι:Inj}{h:Heap}{w:World} (H:HRel N ι h w):ι h.size=none:=by
 cases e:ι h.size with
 |none=>rfl
 |some l=>exact absurd (H.dom _ _ e) (Nat.lt_irrefl _)
theorem HRel.newAt {ι:Inj}{h:Heap}{w w':World} (H:HRel N ι h w) {o:AObj}{l:Loc} (hl:w.heap.size<=l.blk) (hlt:l.blk<w'.heap.size) (hs:w.heap.size<=w'.heap.size)
  (ho:∀ b,b<w.heap.size->w'.heap[b]?=w.heap[b]?) (hr:ORel (ι.add h.size l) l o w'.heap[l.blk]?)
  (out:w'.output=w.output/\w'.os=w.os/\w'.tape=w.tape/\w.drawn<=w'.drawn) (hm':∀ cs,o≠.cells cs true:=by intro cs hc;cases hc) :
  HRel N (ι.add h.size l) (h.push o) w'/\Step ι h w (ι.add h.size l) (h.push o) w':=by
 have hn:=H.dQ;have ext:=Inj.kn (l:=l) hn
 have old:∀ k,k≠h.size->(h.push o).mut k->h.mut k:=by
  intro k q ⟨o',h1,h2⟩;rw[Heap.bc,if_neg q] at h1;exact⟨o',h1,h2⟩
 have fblk:∀ b C,ι.fz b=some C->b<w.heap.size:=fun b C e=>by
  obtain⟨ty,fr,e⟩:=H.frz b C e;exact (Array.getElem?_eq_some_iff.1 e).1
 refine⟨⟨?_,?_,?_,?_,?_,fun b C e=>?_,fun b C g1 l1 e1 e2 m1=>?_,fun g1 l1 cs e1 e2=>?_⟩,?_⟩;rotate_left 5
 ·rw[ho b (fblk b C e)];exact H.frz b C e
 ·rw[Inj.add_get] at e2;by_cases q:g1=h.size
  ·rw[if_pos q] at e2
   cases e2
   have:=fblk b C e1;omega
  ·rw[if_neg q] at e2;exact H.fzap b C g1 l1 e1 e2 (old g1 q m1)
 ·rw[Inj.add_get] at e1;rw[Heap.bc] at e2;by_cases q:g1=h.size
  ·rw[if_pos q] at e2
   cases e2
   exact absurd rfl (hm' cs)
  ·rw[if_neg q] at e1 e2;exact H.rofz g1 l1 cs e1 e2
 rotate_right 5
 ·intro g l' e
  show g<h.size+1
  rw[Inj.add_get] at e;by_cases q:g=h.size
  ·omega
  ·rw[if_neg q] at e;have:=H.dom g l' e;omega
 ·intro g l' e;rw[Inj.add_get] at e;by_cases q:g=h.size
  ·rw[if_pos q] at e;cases e;omega
  ·rw[if_neg q] at e;have:=H.blk g l' e;omega
 ·intro g hg;obtain⟨l',e,h1,h2⟩:=H.glob g hg;exact⟨l',ext.at_ _ _ e,h1,h2⟩
 ·intro g l' o' e1 e2;rw[Heap.bc] at e2;rw[Inj.add_get] at e1;by_cases q:g=h.size
  ·rw[if_pos q] at e1 e2;cases e1;cases e2;exact hr
  ·rw[if_neg q] at e1 e2;rw[ho _ (H.blk _ _ e1)];exact (H.obj g l' o' e1 e2).mono ext
 ·intro g1 g2 l1 l2 e1 e2 hne m1 m2;rw[Inj.add_get] at e1 e2
  have old':∀ k,k≠h.size->(h.push o).live k->h.live k:=by
   intro k q ⟨o',h1,h2⟩;rw[Heap.bc,if_neg q] at h1;exact⟨o',h1,h2⟩
  by_cases q1:g1=h.size
  ·rw[if_pos q1] at e1;cases e1;rw[if_neg (by omega)] at e2;have:=H.blk _ _ e2;omega
  ·rw[if_neg q1] at e1;by_cases q2:g2=h.size
   ·rw[if_pos q2] at e2;cases e2;have:=H.blk _ _ e1;omega
   ·rw[if_neg q2] at e2;exact H.apart g1 g2 l1 l2 e1 e2 hne (old _ q1 m1) (old' _ q2 m2)
 ·refine⟨H.dom,Nat.le_succ _,ext,?_,?_,?_,?_,by omega,fun b hb _=>ho b hb,?_,out,fun b C e1 e2=>(by rw[show (ι.add h.size l).fz b=ι.fz b from rfl,e2] at e1;cases e1)⟩
  ·intro g l' e e';rw[Inj.add_get] at e;by_cases q:g=h.size
   ·omega
   ·rw[if_neg q,e'] at e;cases e
  ·intro g l' e e';rw[Inj.add_get] at e;by_cases q:g=h.size
   ·rw[if_pos q] at e;cases e;exact .inl hl
   ·rw[if_neg q,e'] at e;cases e
  ·intro g hg ⟨o',h1,h2⟩;rw[Heap.bc,if_neg (by omega)] at h1;exact⟨o',h1,h2⟩
  ·intro g hg ⟨o',h1,h2⟩;rw[Heap.bc,if_neg (by omega)] at h1;exact⟨o',h1,h2⟩
  ·intro g hg _;rw[Heap.bc,if_neg (by omega)]
theorem HRel.new {ι:Inj}{h:Heap}{w w':World} (H:HRel N ι h w) {o:AObj}{l:Loc} (hl:l.blk=w.heap.size) (hs:w'.heap.size=w.heap.size+1)
 (ho:∀ b,b<w.heap.size->w'.heap[b]?=w.heap[b]?) (hr:ORel (ι.add h.size l) l o w'.heap[l.blk]?)
 (out:w'.output=w.output/\w'.os=w.os/\w'.tape=w.tape/\w.drawn<=w'.drawn) (hm':∀ cs,o≠.cells cs true:=by intro cs hc;cases hc) :
 HRel N (ι.add h.size l) (h.push o) w'/\Step ι h w (ι.add h.size l) (h.push o) w':=H.newAt (by omega) (by omega) (by omega) ho hr out hm'
theorem HRel.Gy {ι:Inj}{h:Heap}{w w':World} (H:HRel N ι h w) {g:Nat}{l0 l:Loc} (e:ι g=some l0) (m:h.mut g) {o:AObj} (hl:l.blk=l0.blk)
  (hs:w'.heap.size=w.heap.size) (ho:∀ b,b≠l.blk->w'.heap[b]?=w.heap[b]?) (hr:ORel (ι.add h.size l) l o w'.heap[l.blk]?)
  (out:w'.output=w.output/\w'.os=w.os/\w'.tape=w.tape/\w.drawn<=w'.drawn) (hm':∀ cs,o≠.cells cs true:=by intro cs hc;cases hc) :
  HRel N (ι.add h.size l) ((h.upd g .dead).push o) w'/\Step ι h w (ι.add h.size l) ((h.upd g .dead).push o) w':=by
 have hn:=H.dQ;have ext:=Inj.kn (l:=l) hn;have hg:g<h.size:=H.dom g l0 e;have hsz:(h.upd g .dead).size=h.size:=rfl
 have get:∀ k,((h.upd g .dead).push o).get k=if k=h.size then some o else if k=g then some .dead else h.get k:=by
  intro k;rw[Heap.bc,hsz,Heap.bF _ _ _ _ hg]
 have old:∀ k,k≠h.size->((h.upd g .dead).push o).mut k->k≠g/\h.mut k:=by
  intro k q ⟨o',h1,h2⟩;rw[get,if_neg q] at h1;by_cases q2:k=g
  ·rw[if_pos q2] at h1;cases h1;cases h2
  ·rw[if_neg q2] at h1;exact⟨q2,o',h1,h2⟩
 have old':∀ k,k≠h.size->((h.upd g .dead).push o).live k->k≠g/\h.live k:=by
  intro k q ⟨o',h1,h2⟩;rw[get,if_neg q] at h1;by_cases q2:k=g
  ·rw[if_pos q2] at h1;cases h1;cases h2
  ·rw[if_neg q2] at h1;exact⟨q2,o',h1,h2⟩
 refine⟨⟨?_,?_,?_,?_,?_,fun b C e1=>?_,fun b C g1 l1 e1 e2 m1=>?_,fun g1 l1 cs e1 e2=>?_⟩,?_⟩;rotate_left 5
 ·rw[ho b (by rw[hl];exact Ne.symm (H.fzap b C g l0 e1 e m))];exact H.frz b C e1
 ·rw[Inj.add_get] at e2;by_cases q:g1=h.size
  ·rw[if_pos q] at e2
   cases e2
   rw[hl];exact H.fzap b C g l0 e1 e m
  ·rw[if_neg q] at e2;exact H.fzap b C g1 l1 e1 e2 (old g1 q m1).2
 ·rw[Inj.add_get] at e1;rw[get] at e2;by_cases q:g1=h.size
  ·rw[if_pos q] at e2
   cases e2
   exact absurd rfl (hm' cs)
  ·rw[if_neg q] at e1 e2;by_cases q2:g1=g
   ·rw[if_pos q2] at e2;cases e2
   ·rw[if_neg q2] at e2;exact H.rofz g1 l1 cs e1 e2
 rotate_right 5
 ·intro k l' e1
  show k<h.size+1
  rw[Inj.add_get] at e1;by_cases q:k=h.size
  ·omega
  ·rw[if_neg q] at e1;have:=H.dom k l' e1;omega
 ·intro k l' e1;rw[Inj.add_get] at e1;by_cases q:k=h.size
  ·rw[if_pos q] at e1;cases e1;rw[hs,hl];exact H.blk _ _ e
  ·rw[if_neg q] at e1;rw[hs];exact H.blk k l' e1
 ·intro k hk;obtain⟨l',e1,h1,h2⟩:=H.glob k hk;exact⟨l',ext.at_ _ _ e1,h1,h2⟩
 ·intro k l' o' e1 e2;rw[get] at e2;rw[Inj.add_get] at e1;by_cases q:k=h.size
  ·rw[if_pos q] at e1 e2;cases e1;cases e2;exact hr
  ·rw[if_neg q] at e1 e2;by_cases q2:k=g
   ·rw[if_pos q2] at e2;cases e2;trivial
   ·rw[if_neg q2] at e2
    have hlv:o'.live=true->l'.blk≠l.blk:=fun hv=>by rw[hl];exact Ne.symm (H.apart g k l0 l' e e1 (Ne.symm q2) m ⟨o',e2,hv⟩)
    cases o' with
    |dead=>trivial
    |cells cs ro=>rw[ho _ (hlv rfl)];exact (H.obj k l' _ e1 e2).mono ext
    |map es=>rw[ho _ (hlv rfl)];exact (H.obj k l' _ e1 e2).mono ext
    |iter s pos=>rw[ho _ (hlv rfl)];exact (H.obj k l' _ e1 e2).mono ext
    |rng g3 seen n=>rw[ho _ (hlv rfl)];exact (H.obj k l' _ e1 e2).mono ext
 ·intro g1 g2 l1 l2 e1 e2 hne m1 m2;rw[Inj.add_get] at e1 e2;by_cases q1:g1=h.size
  ·rw[if_pos q1] at e1;cases e1
   have q2:g2≠h.size:=by omega
   rw[if_neg q2] at e2;obtain⟨n2,v2⟩:=old' g2 q2 m2;rw[hl];exact H.apart g g2 l0 l2 e e2 (Ne.symm n2) m v2
  ·rw[if_neg q1] at e1;obtain⟨n1,v1⟩:=old g1 q1 m1;by_cases q2:g2=h.size
   ·rw[if_pos q2] at e2;cases e2;rw[hl];exact H.apart g1 g l1 l0 e1 e n1 v1 m.live
   ·rw[if_neg q2] at e2;exact H.apart g1 g2 l1 l2 e1 e2 hne v1 (old' _ q2 m2).2
 ·refine⟨H.dom,Nat.le_succ _,ext,?_,?_,?_,?_,by omega,?_,?_,out,fun b C e1 e2=>(by rw[show (ι.add h.size l).fz b=ι.fz b from rfl,e2] at e1;cases e1)⟩
  ·intro k l' e1 e';rw[Inj.add_get] at e1;by_cases q:k=h.size
   ·omega
   ·rw[if_neg q,e'] at e1;cases e1
  ·intro k l' e1 e';rw[Inj.add_get] at e1;by_cases q:k=h.size
   ·rw[if_pos q] at e1;cases e1;exact .inr ⟨g,l0,e,m,hl.symm⟩
   ·rw[if_neg q,e'] at e1;cases e1
  ·intro k hk mk;exact (old k (by omega) mk).2
  ·intro k hk mk;exact (old' k (by omega) mk).2
  ·intro b _ hb;exact ho b (by rw[hl];exact Ne.symm (hb g l0 e m))
  ·intro k hk e1;rw[get,if_neg (by omega),if_neg (by intro q;subst q;rw[e] at e1;cases e1)]
theorem HRel.same {ι:Inj}{h:Heap}{w w':World} (H:HRel N ι h w) (hh:w'.heap=w.heap):HRel N ι h w' :=
 ⟨H.dom,fun g l e=>hh ▸ H.blk g l e,H.glob,fun g l o e1 e2=>hh ▸ H.obj g l o e1 e2,H.apart,fun b C e=>hh ▸ H.frz b C e,H.fzap,H.rofz⟩
theorem Step.same {ι:Inj}{h:Heap}{w w':World} (H:HRel N ι h w) (hh:w'.heap=w.heap) (out:w'.output=w.output/\w'.os=w.os/\w'.tape=w.tape/\w.drawn<=w'.drawn):Step ι h w ι h w' :=
 ⟨H.dom,Nat.le_refl _,Inj.Le.refl ι,fun g l e e'=>(by rw[e'] at e;cases e),fun g l e e'=>(by rw[e'] at e;cases e),fun _ _ m=>m,fun _ _ m=>m,(by rw[hh];exact Nat.le_refl _),fun _ _ _=>by rw[hh],
  fun _ _ _=>rfl,out,fun b C e1 e2=>(by rw[e2] at e1;cases e1)⟩
theorem HRel.cell {ι:Inj}{h:Heap}{w:World} (H:HRel N ι h w) {g:Nat}{l:Loc}{cs:List Value}{ro:Bool} (e:ι g=some l) (hg:h.get g=some (.cells cs ro)) {i:Nat}{v:Value}
  (hv:cs[i]?=some v):∃ v',w.cell? ⟨l.blk,l.base+i,none⟩=some v'/\VRel ι v v':=by
 obtain⟨C,ty,fr,h1,_,_,_,h5⟩:=H.obj g l _ e hg;obtain⟨v',h6,h7⟩:=h5 i v hv;exact⟨v',by simp[World.cell?,h1,h6],h7⟩
theorem cj (b o n:Nat):(⟨b,o,none⟩:Addr).add n=⟨b,o+n,none⟩:=by
 unfold Addr.add
 split <;> simp_all
theorem HRel.loadCells {ι:Inj}{h:Heap}{w:World} (H:HRel N ι h w) {P:Program}{g:Nat}{l:Loc}{cs:List Value}{ro:Bool} (e:ι g=some l) (hg:h.get g=some (.cells cs ro)) {i n:Nat}
  (hn:i+n<=cs.length):∃ vs,(Go.loadCells ⟨l.blk,l.base+i,none⟩ n).run P w=.ok vs w/\bm ι ((cs.drop i).take n).toArray vs:=by
 have hc:∀ j,j<n->w.cell? ⟨l.blk,l.base+i+j,none⟩=some ((w.cell? ⟨l.blk,l.base+i+j,none⟩).getD undef) /\
   VRel ι (cs.getD (i+j) undef) ((w.cell? ⟨l.blk,l.base+i+j,none⟩).getD undef):=by
  intro j hj
  have hlt:i+j<cs.length:=by omega
  obtain⟨v',h1,h2⟩:=H.cell e hg (i:=i+j) (v:=cs[i+j]) (List.getElem?_eq_getElem hlt);rw[<- Nat.add_assoc] at h1;simp only[h1,Option.getD_some,List.getD,List.getElem?_eq_getElem hlt];exact⟨trivial,h2⟩
 refine⟨_,run_loadCells w _ n (fun j=>(w.cell? ⟨l.blk,l.base+i+j,none⟩).getD undef) (fun j hj=>by rw[cj];exact (hc j hj).1),?_⟩;apply aS.array;refine aS.lL (by simp;omega) fun k v v' e1 e2=>?_;rw[List.getElem?_take] at e1;split at e1
 ·rename_i hk;rw[List.getElem?_drop] at e1;simp only[List.getElem?_map,List.getElem?_range hk,Option.map_some,Option.some.injEq] at e2;subst e2;have:=(hc k hk).2;simpa[List.getD,e1] using this
 ·cases e1
def bp (cs:List Value) (i:Nat) (vs:List Value):List Value:=cs.take i++vs++cs.drop (i+vs.length)
theorem HRel.rL {ι:Inj}{h:Heap}{w:World} (H:HRel N ι h w) {P:Program}{g:Nat}{l:Loc}{cs:List Value} (e:ι g=some l) (hg:h.get g=some (.cells cs false)) {i:Nat}{vs vs':List Value}
  (hr:aS ι vs vs') (hi:i<=cs.length) (hn:l.base+i+vs.length<=l.tot) (h1:∀ v∈vs,v.oneCell'=true) :
  ∃ w',(Go.storeCells ⟨l.blk,l.base+i,none⟩ vs').run P w=.ok () w'/\HRel N ι (h.upd g (.cells (bp cs i vs) false)) w'/\Step ι h w ι (h.upd g (.cells (bp cs i vs) false)) w':=by
 obtain⟨C,ty,fr,k1,k2,k3,k4,k5⟩:=H.obj g l _ e hg;have hfr:=k2 rfl;subst hfr
 have one:∀ v∈vs',v.oneCell'=true:=by
  intro v hv;obtain⟨j,hj⟩:=List.getElem?_of_mem hv
  have hlt:j<vs.length:=by have:=(List.getElem?_eq_some_iff.1 hj).1;rw[hr.1];exact this
  obtain⟨u,hu,r⟩:=hr.get (List.getElem?_eq_getElem hlt);rw[hj] at hu;cases hu;rw[r.BU];exact h1 _ (List.getElem_mem hlt)
 have hl:=hr.1;have run:=run_storeCells_at P l.blk (l.base+i) ty vs' 0 C w k1 (by omega) one;refine⟨_,run,?_⟩;have m:h.mut g:=⟨_,hg,rfl⟩;refine H.write e m (by simp) (fun b hb=>setRow_other w l.blk b _ hb) ?_ ⟨rfl,rfl,rfl,Nat.le_refl _⟩;rw[setRow_heap w l.blk C _ ty (0,0) k1];refine⟨_,ty,(0,0),rfl,fun _=>rfl,?_,?_,?_⟩
 ·simp;omega
 ·simp[bp];omega
 ·intro j v hj;simp only[bp] at hj;simp only[Nat.add_zero,List.getElem?_toArray];by_cases c1:j<i
  ·rw[List.append_assoc,List.getElem?_append_left (by simp;omega),List.getElem?_take,if_pos c1] at hj;obtain⟨v',h6,h7⟩:=k5 j v hj;refine⟨v',?_,h7⟩;rw[List.append_assoc,List.getElem?_append_left (by simp;omega),List.getElem?_take,if_pos (by omega)];simpa using h6
  ·by_cases c2:j<i+vs.length
   ·rw[List.append_assoc,List.getElem?_append_right (by simp;omega),List.getElem?_append_left (by simp;omega)] at hj;obtain⟨v',h6,h7⟩:=hr.get hj;refine⟨v',?_,h7⟩;rw[List.append_assoc,List.getElem?_append_right (by simp;omega),List.getElem?_append_left (by simp;omega)];rw[<- h6];congr 1;simp;omega
   ·rw[List.getElem?_append_right (by simp;omega),List.getElem?_drop] at hj;obtain⟨v',h6,h7⟩:=k5 _ v hj;refine⟨v',?_,h7⟩;rw[List.getElem?_append_right (by simp;omega),List.getElem?_drop];simp only[Array.getElem?_toList];rw[<- h6];congr 1;simp;omega
theorem HRel.storeCells {ι:Inj}{h:Heap}{w:World} (H:HRel N ι h w) {P:Program}{g:Nat}{l:Loc}{cs:List Value} (e:ι g=some l) (hg:h.get g=some (.cells cs false)) {i:Nat}{vs vs':List Value}
  (hr:aS ι vs vs') (hn:i+vs.length<=cs.length) (h1:∀ v∈vs,v.oneCell'=true) :
  ∃ w',(Go.storeCells ⟨l.blk,l.base+i,none⟩ vs').run P w=.ok () w'/\HRel N ι (h.upd g (.cells (bp cs i vs) false)) w'/\Step ι h w ι (h.upd g (.cells (bp cs i vs) false)) w':=by
 obtain⟨C,ty,fr,k1,k2,k3,k4,k5⟩:=H.obj g l _ e hg;exact H.rL e hg hr (by omega) (by omega) h1
end Go.Abs
