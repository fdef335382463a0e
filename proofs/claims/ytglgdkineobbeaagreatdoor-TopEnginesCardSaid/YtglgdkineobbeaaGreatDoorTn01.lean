/- Parts of the proof. -/
import Derived.Test.YtglgdkineobbeaaGreatDoorTn00
open Go renaming storeCells->Sp
open List renaming getD->Mh
namespace Go.Abs
def ba(ι:Inj)(xs ys:List Value):Prop:=xs.length=ys.length/\∀i:Nat,VRel ι (xs.getD i undef) (ys.getD i undef)
def bB(ι:Inj)(xs ys:Array Value):Prop:=xs.size=ys.size/\∀i:Nat,VRel ι (xs.getD i undef) (ys.getD i undef)
theorem fE(xs:Array Value)(i:Nat):xs.toList.getD i undef=xs.getD i undef:=by
 simp[Mh,LW]
theorem bB.list{ι:Inj}{xs ys:Array Value}(h:bB ι xs ys):ba ι xs.toList ys.toList :=
 ⟨by simpa using h.1,λi=>by rw[fE,fE];exact h.2 i⟩
theorem ba.array{ι:Inj}{xs ys:List Value}(h:ba ι xs ys):bB ι xs.toArray ys.toArray :=
 ⟨by simpa using h.1,λi=>by rw[<- fE,<- fE];exact h.2 i⟩
theorem bB.iK{ι:Inj}{xs ys:Array Value}:bB ι xs ys↔ba ι xs.toList ys.toList :=
 ⟨bB.list,λh=>by have:=h.array;simpa using this⟩
theorem ba.nil(ι:Inj):ba ι [] []:=⟨rfl,λi=>by simpa using VRel.nothing ι⟩
theorem ba.cons{ι:Inj}{x y:Value}{xs ys:List Value}(h:VRel ι x y)(r:ba ι xs ys):ba ι (x::xs) (y::ys) :=
 ⟨by simp[r.1],λi=>by cases i with
  |zero=>simpa using h
  |succ i=>simpa using r.2 i⟩
theorem bB.mono{ι ι':Inj}(h:Inj.Le ι ι'){xs ys:Array Value}(r:bB ι xs ys):bB ι' xs ys :=
 ⟨r.1,λi=>(r.2 i).mono h⟩
theorem ba.get{ι:Inj}{xs ys:List Value}(r:ba ι xs ys){i:Nat}{v:Value}(e:xs[i]?=some v):∃v',ys[i]?=some v'/\VRel ι v v':=by
 have hi:i<xs.length:=(LX.1 e).1;have hi':i<ys.length:=r.1 ▸ hi;have:=r.2 i;simp only[Mh,e,NI,LU hi'] at this;exact⟨ys[i],LU hi',this⟩
theorem ba.nf{ι:Inj}{xs ys:List Value}(h:xs.length=ys.length)(r:∀(i:Nat) (v v':Value),xs[i]?=some v->ys[i]?=some v'->VRel ι v v'):ba ι xs ys:=by
 refine⟨h,λi=>?_⟩;by_cases hi:i<xs.length
 .have hi':i<ys.length:=h ▸ hi;simp only[Mh,LU hi,LU hi',NI];exact r i _ _ (LU hi) (LU hi')
 .have hi':¬ i<ys.length:=h ▸ hi;simp only[Mh,Mk (QZ hi),Mk (QZ hi'),Option.getD_none];exact VRel.nothing ι
theorem ba.append{ι:Inj}{xs ys xs' ys':List Value}(r:ba ι xs ys)(r':ba ι xs' ys'):ba ι (xs++xs') (ys++ys'):=by
 refine ba.nf (by simp[r.1,r'.1]) λi v v' e e'=>?_;by_cases hi:i<xs.length
 .have hi':i<ys.length:=r.1 ▸ hi;rw[Mb hi] at e;rw[Mb hi'] at e';obtain⟨u,hu,q⟩:=r.get e;rw[hu] at e';cases e';exact q
 .rw[Mg (QZ hi)] at e;have hl:=r.1;rw[Mg (by omega)] at e';obtain⟨u,hu,q⟩:=r'.get e;rw[<- r.1,hu] at e';cases e';exact q
theorem ba.take{ι:Inj}{xs ys:List Value}(r:ba ι xs ys)(n:Nat):ba ι (xs.take n) (ys.take n):=by
 refine ba.nf (by simp[r.1]) λi v v' e e'=>?_;rw[MX] at e e';split at e
 .rename_i h;rw[if_pos h] at e';obtain⟨u,hu,q⟩:=r.get e;rw[hu] at e';cases e';exact q
 .cases e
theorem ba.drop{ι:Inj}{xs ys:List Value}(r:ba ι xs ys)(n:Nat):ba ι (xs.drop n) (ys.drop n):=by
 refine ba.nf (by simp[r.1]) λi v v' e e'=>?_;rw[Nq] at e e';obtain⟨u,hu,q⟩:=r.get e;rw[hu] at e';cases e';exact q
variable {N:Nat}
theorem HRel.write{ι:Inj}{h:Heap}{w w':World}(H:HRel N ι h w){g:Nat}{l:Loc}(e:ι g=some l)(m:h.mut g){o':AObj}
  (hs:w'.heap.size=w.heap.size) (ho:∀b,b≠l.blk->w'.heap[b]?=w.heap[b]?) (hr:iL ι l o' w'.heap[l.blk]?)
  (out:w'.output=w.output/\w'.os=w.os/\w'.tape=w.tape/\(N=0->w.drawn<=w'.drawn)) (hm':∀cs,o'≠.cells cs true:=by intro cs hc;cases hc) :
  HRel N ι (h.upd g o') w'/\Step N ι h w ι (h.upd g o') w':=by
 have hg:g<h.size:=H.dom g l e
 have back:∀k,(h.upd g o').mut k->h.mut k:=by
  intro k ⟨o,h1,h2⟩;rw[Heap.cc _ _ _ _ hg] at h1;by_cases q:k=g
  .subst q;exact m
  .rw[if_neg q] at h1;exact⟨o,h1,h2⟩
 refine⟨⟨H.dom,λg' l' e'=>hs ▸ H.blk g' l' e',H.glob,?_,?_,λb C e1=>?_,λb C g1 l1 e1 e2 m1=>H.fzap b C g1 l1 e1 e2 (back _ m1),λg1 l1 cs e1 e2=>?_⟩,?_⟩;rotate_left 2
 .rw[ho b (NU (H.fzap b C g l e1 e m))];exact H.frz b C e1
 .rw[Heap.cc _ _ _ _ hg] at e2;by_cases q:g1=g
  .rw[if_pos q] at e2
   cases e2
   exact absurd rfl (hm' cs)
  .rw[if_neg q] at e2;exact H.rofz g1 l1 cs e1 e2
 rotate_right 2
 .intro g' l' o e1 e2;rw[Heap.cc _ _ _ _ hg] at e2;by_cases q:g'=g
  .subst q;rw[e] at e1;cases e1;simp only[if_true] at e2;cases e2;exact hr
  .rw[if_neg q] at e2;have hl:o.live=true->l'.blk≠l.blk:=λhl=>NU (H.apart g g' l l' e e1 (NU q) m ⟨o,e2,hl⟩)
   cases o with
   |dead=>trivial
   |cells cs ro=>rw[ho _ (hl rfl)];exact H.obj g' l' _ e1 e2
   |map es=>rw[ho _ (hl rfl)];exact H.obj g' l' _ e1 e2
   |iter s pos=>rw[ho _ (hl rfl)];exact H.obj g' l' _ e1 e2
   |rng g3 seen n=>rw[ho _ (hl rfl)];exact H.obj g' l' _ e1 e2
 .intro g1 g2 l1 l2 e1 e2 hne m1 l2'
  have back':∀k,(h.upd g o').live k->h.live k:=by
   intro k ⟨o,h1,h2⟩;rw[Heap.cc _ _ _ _ hg] at h1;by_cases q:k=g
   .subst q;exact m.live
   .rw[if_neg q] at h1;exact⟨o,h1,h2⟩
  exact H.apart g1 g2 l1 l2 e1 e2 hne (back _ m1) (back' _ l2')
 .refine⟨H.dom,LV _,Inj.Le.refl ι,λk l e1 e2=>(by rw[e2] at e1;cases e1),λk l e1 e2=>(by rw[e2] at e1;cases e1),?_,?_,RT hs.symm,?_,?_,out,λb C e1 e2=>(by rw[e2] at e1;cases e1)⟩
  .intro k hk ⟨o,h1,h2⟩;rw[Heap.cc _ _ _ _ hg] at h1;by_cases q:k=g
   .subst q;exact m
   .rw[if_neg q] at h1;exact⟨o,h1,h2⟩
  .intro k hk ⟨o,h1,h2⟩;rw[Heap.cc _ _ _ _ hg] at h1;by_cases q:k=g
   .subst q;exact m.live
   .rw[if_neg q] at h1;exact⟨o,h1,h2⟩
  .intro b _ hn;exact ho b (NU (hn g l e m))
  .intro k _ e1;rw[Heap.cc _ _ _ _ hg,if_neg (by intro q;subst q;rw[e] at e1;cases e1)]
def Inj.add(ι:Inj)(g:Nat)(l:Loc):Inj:=⟨λk=>if k=g then some l else ι k,ι.fz⟩
def Inj.frozen(ι:Inj)(b:Nat)(C:Array Value):Inj:=⟨ι.at_,λk=>if k=b then some C else ι.fz k⟩
theorem Inj.add_get(ι:Inj)(g:Nat)(l:Loc)(k:Nat):(ι.add g l) k=if k=g then some l else ι k:=rfl
theorem Inj.ml{ι:Inj}{g:Nat}{l:Loc}(h:ι g=none):Inj.Le ι (ι.add g l):=by
 refine⟨λk l' e=>?_,λ_ _ e=>e⟩;rw[Inj.add_get,if_neg (by intro q;subst q;rw[h] at e;cases e)];exact e
theorem HRel.ft{ι:Inj}{h:Heap}{w:World}(H:HRel N ι h w):ι h.size=none:=by
 cases e:ι h.size with
 |none=>rfl
 |some l=>exact absurd (H.dom _ _ e) (Ot _)
theorem HRel.newAt{ι:Inj}{h:Heap}{w w':World}(H:HRel N ι h w){o:AObj}{l:Loc}(hl:w.heap.size<=l.blk)(hlt:l.blk<w'.heap.size)(hs:w.heap.size<=w'.heap.size)
  (ho:∀b,b<w.heap.size->w'.heap[b]?=w.heap[b]?) (hr:iL (ι.add h.size l) l o w'.heap[l.blk]?)
  (out:w'.output=w.output/\w'.os=w.os/\w'.tape=w.tape/\(N=0->w.drawn<=w'.drawn)) (hm':∀cs,o≠.cells cs true:=by intro cs hc;cases hc) :
  HRel N (ι.add h.size l) (h.push o) w'/\Step N ι h w (ι.add h.size l) (h.push o) w':=by
 have hn:=H.ft;have ext:=Inj.ml (l:=l) hn
 have old:∀k,k≠h.size->(h.push o).mut k->h.mut k:=by
  intro k q ⟨o',h1,h2⟩;rw[Heap.bq,if_neg q] at h1;exact⟨o',h1,h2⟩
 have fblk:∀b C,ι.fz b=some C->b<w.heap.size:=λb C e=>by
  obtain⟨ty,fr,e⟩:=H.frz b C e;exact (L3.1 e).1
 refine⟨⟨?_,?_,?_,?_,?_,λb C e=>?_,λb C g1 l1 e1 e2 m1=>?_,λg1 l1 cs e1 e2=>?_⟩,?_⟩;rotate_left 5
 .rw[ho b (fblk b C e)];exact H.frz b C e
 .rw[Inj.add_get] at e2;by_cases q:g1=h.size
  .rw[if_pos q] at e2
   cases e2
   have:=fblk b C e1;omega
  .rw[if_neg q] at e2;exact H.fzap b C g1 l1 e1 e2 (old g1 q m1)
 .rw[Inj.add_get] at e1;rw[Heap.bq] at e2;by_cases q:g1=h.size
  .rw[if_pos q] at e2
   cases e2
   exact absurd rfl (hm' cs)
  .rw[if_neg q] at e1 e2;exact H.rofz g1 l1 cs e1 e2
 rotate_right 5
 .intro g l' e
  show g<h.size+1
  rw[Inj.add_get] at e;by_cases q:g=h.size
  .omega
  .rw[if_neg q] at e;have:=H.dom g l' e;omega
 .intro g l' e;rw[Inj.add_get] at e;by_cases q:g=h.size
  .rw[if_pos q] at e;cases e;omega
  .rw[if_neg q] at e;have:=H.blk g l' e;omega
 .intro g hg;obtain⟨l',e,h1,h2⟩:=H.glob g hg;exact⟨l',ext.at_ _ _ e,h1,h2⟩
 .intro g l' o' e1 e2;rw[Heap.bq] at e2;rw[Inj.add_get] at e1;by_cases q:g=h.size
  .rw[if_pos q] at e1 e2;cases e1;cases e2;exact hr
  .rw[if_neg q] at e1 e2;rw[ho _ (H.blk _ _ e1)];exact (H.obj g l' o' e1 e2).mono ext
 .intro g1 g2 l1 l2 e1 e2 hne m1 m2;rw[Inj.add_get] at e1 e2
  have old':∀k,k≠h.size->(h.push o).live k->h.live k:=by
   intro k q ⟨o',h1,h2⟩;rw[Heap.bq,if_neg q] at h1;exact⟨o',h1,h2⟩
  by_cases q1:g1=h.size
  .rw[if_pos q1] at e1;cases e1;rw[if_neg (by omega)] at e2;have:=H.blk _ _ e2;omega
  .rw[if_neg q1] at e1;by_cases q2:g2=h.size
   .rw[if_pos q2] at e2;cases e2;have:=H.blk _ _ e1;omega
   .rw[if_neg q2] at e2;exact H.apart g1 g2 l1 l2 e1 e2 hne (old _ q1 m1) (old' _ q2 m2)
 .refine⟨H.dom,NB _,ext,?_,?_,?_,?_,by omega,λb hb _=>ho b hb,?_,out,λb C e1 e2=>(by rw[show (ι.add h.size l).fz b=ι.fz b from rfl,e2] at e1;cases e1)⟩
  .intro g l' e e';rw[Inj.add_get] at e;by_cases q:g=h.size
   .omega
   .rw[if_neg q,e'] at e;cases e
  .intro g l' e e';rw[Inj.add_get] at e;by_cases q:g=h.size
   .rw[if_pos q] at e;cases e;exact .inl hl
   .rw[if_neg q,e'] at e;cases e
  .intro g hg ⟨o',h1,h2⟩;rw[Heap.bq,if_neg (by omega)] at h1;exact⟨o',h1,h2⟩
  .intro g hg ⟨o',h1,h2⟩;rw[Heap.bq,if_neg (by omega)] at h1;exact⟨o',h1,h2⟩
  .intro g hg _;rw[Heap.bq,if_neg (by omega)]
theorem HRel.new{ι:Inj}{h:Heap}{w w':World}(H:HRel N ι h w){o:AObj}{l:Loc}(hl:l.blk=w.heap.size)(hs:w'.heap.size=w.heap.size+1)
 (ho:∀b,b<w.heap.size->w'.heap[b]?=w.heap[b]?) (hr:iL (ι.add h.size l) l o w'.heap[l.blk]?)
 (out:w'.output=w.output/\w'.os=w.os/\w'.tape=w.tape/\(N=0->w.drawn<=w'.drawn)) (hm':∀cs,o≠.cells cs true:=by intro cs hc;cases hc) :
 HRel N (ι.add h.size l) (h.push o) w'/\Step N ι h w (ι.add h.size l) (h.push o) w':=H.newAt (by omega) (by omega) (by omega) ho hr out hm'
theorem HRel.HP{ι:Inj}{h:Heap}{w w':World}(H:HRel N ι h w){g:Nat}{l0 l:Loc}(e:ι g=some l0)(m:h.mut g){o:AObj}(hl:l.blk=l0.blk)
  (hs:w'.heap.size=w.heap.size) (ho:∀b,b≠l.blk->w'.heap[b]?=w.heap[b]?) (hr:iL (ι.add h.size l) l o w'.heap[l.blk]?)
  (out:w'.output=w.output/\w'.os=w.os/\w'.tape=w.tape/\(N=0->w.drawn<=w'.drawn)) (hm':∀cs,o≠.cells cs true:=by intro cs hc;cases hc) :
  HRel N (ι.add h.size l) ((h.upd g .dead).push o) w'/\Step N ι h w (ι.add h.size l) ((h.upd g .dead).push o) w':=by
 have hn:=H.ft;have ext:=Inj.ml (l:=l) hn;have hg:g<h.size:=H.dom g l0 e;have hsz:(h.upd g .dead).size=h.size:=rfl
 have get:∀k,((h.upd g .dead).push o).get k=if k=h.size then some o else if k=g then some .dead else h.get k:=by
  intro k;rw[Heap.bq,hsz,Heap.cc _ _ _ _ hg]
 have old:∀k,k≠h.size->((h.upd g .dead).push o).mut k->k≠g/\h.mut k:=by
  intro k q ⟨o',h1,h2⟩;rw[get,if_neg q] at h1;by_cases q2:k=g
  .rw[if_pos q2] at h1;cases h1;cases h2
  .rw[if_neg q2] at h1;exact⟨q2,o',h1,h2⟩
 have old':∀k,k≠h.size->((h.upd g .dead).push o).live k->k≠g/\h.live k:=by
  intro k q ⟨o',h1,h2⟩;rw[get,if_neg q] at h1;by_cases q2:k=g
  .rw[if_pos q2] at h1;cases h1;cases h2
  .rw[if_neg q2] at h1;exact⟨q2,o',h1,h2⟩
 refine⟨⟨?_,?_,?_,?_,?_,λb C e1=>?_,λb C g1 l1 e1 e2 m1=>?_,λg1 l1 cs e1 e2=>?_⟩,?_⟩;rotate_left 5
 .rw[ho b (by rw[hl];exact NU (H.fzap b C g l0 e1 e m))];exact H.frz b C e1
 .rw[Inj.add_get] at e2;by_cases q:g1=h.size
  .rw[if_pos q] at e2
   cases e2
   rw[hl];exact H.fzap b C g l0 e1 e m
  .rw[if_neg q] at e2;exact H.fzap b C g1 l1 e1 e2 (old g1 q m1).2
 .rw[Inj.add_get] at e1;rw[get] at e2;by_cases q:g1=h.size
  .rw[if_pos q] at e2
   cases e2
   exact absurd rfl (hm' cs)
  .rw[if_neg q] at e1 e2;by_cases q2:g1=g
   .rw[if_pos q2] at e2;cases e2
   .rw[if_neg q2] at e2;exact H.rofz g1 l1 cs e1 e2
 rotate_right 5
 .intro k l' e1
  show k<h.size+1
  rw[Inj.add_get] at e1;by_cases q:k=h.size
  .omega
  .rw[if_neg q] at e1;have:=H.dom k l' e1;omega
 .intro k l' e1;rw[Inj.add_get] at e1;by_cases q:k=h.size
  .rw[if_pos q] at e1;cases e1;rw[hs,hl];exact H.blk _ _ e
  .rw[if_neg q] at e1;rw[hs];exact H.blk k l' e1
 .intro k hk;obtain⟨l',e1,h1,h2⟩:=H.glob k hk;exact⟨l',ext.at_ _ _ e1,h1,h2⟩
 .intro k l' o' e1 e2;rw[get] at e2;rw[Inj.add_get] at e1;by_cases q:k=h.size
  .rw[if_pos q] at e1 e2;cases e1;cases e2;exact hr
  .rw[if_neg q] at e1 e2;by_cases q2:k=g
   .rw[if_pos q2] at e2;cases e2;trivial
   .rw[if_neg q2] at e2
    have hlv:o'.live=true->l'.blk≠l.blk:=λhv=>by rw[hl];exact NU (H.apart g k l0 l' e e1 (NU q2) m ⟨o',e2,hv⟩)
    cases o' with
    |dead=>trivial
    |cells cs ro=>rw[ho _ (hlv rfl)];exact (H.obj k l' _ e1 e2).mono ext
    |map es=>rw[ho _ (hlv rfl)];exact (H.obj k l' _ e1 e2).mono ext
    |iter s pos=>rw[ho _ (hlv rfl)];exact (H.obj k l' _ e1 e2).mono ext
    |rng g3 seen n=>rw[ho _ (hlv rfl)];exact (H.obj k l' _ e1 e2).mono ext
 .intro g1 g2 l1 l2 e1 e2 hne m1 m2;rw[Inj.add_get] at e1 e2;by_cases q1:g1=h.size
  .rw[if_pos q1] at e1;cases e1
   have q2:g2≠h.size:=by omega
   rw[if_neg q2] at e2;obtain⟨n2,v2⟩:=old' g2 q2 m2;rw[hl];exact H.apart g g2 l0 l2 e e2 (NU n2) m v2
  .rw[if_neg q1] at e1;obtain⟨n1,v1⟩:=old g1 q1 m1;by_cases q2:g2=h.size
   .rw[if_pos q2] at e2;cases e2;rw[hl];exact H.apart g1 g l1 l0 e1 e n1 v1 m.live
   .rw[if_neg q2] at e2;exact H.apart g1 g2 l1 l2 e1 e2 hne v1 (old' _ q2 m2).2
 .refine⟨H.dom,NB _,ext,?_,?_,?_,?_,by omega,?_,?_,out,λb C e1 e2=>(by rw[show (ι.add h.size l).fz b=ι.fz b from rfl,e2] at e1;cases e1)⟩
  .intro k l' e1 e';rw[Inj.add_get] at e1;by_cases q:k=h.size
   .omega
   .rw[if_neg q,e'] at e1;cases e1
  .intro k l' e1 e';rw[Inj.add_get] at e1;by_cases q:k=h.size
   .rw[if_pos q] at e1;cases e1;exact .inr ⟨g,l0,e,m,hl.symm⟩
   .rw[if_neg q,e'] at e1;cases e1
  .intro k hk mk;exact (old k (by omega) mk).2
  .intro k hk mk;exact (old' k (by omega) mk).2
  .intro b _ hb;exact ho b (by rw[hl];exact NU (hb g l0 e m))
  .intro k hk e1;rw[get,if_neg (by omega),if_neg (by intro q;subst q;rw[e] at e1;cases e1)]
theorem HRel.same{ι:Inj}{h:Heap}{w w':World}(H:HRel N ι h w)(hh:w'.heap=w.heap):HRel N ι h w' :=
 ⟨H.dom,λg l e=>hh ▸ H.blk g l e,H.glob,λg l o e1 e2=>hh ▸ H.obj g l o e1 e2,H.apart,λb C e=>hh ▸ H.frz b C e,H.fzap,H.rofz⟩
theorem Step.same{ι:Inj}{h:Heap}{w w':World}(H:HRel N ι h w)(hh:w'.heap=w.heap)(out:w'.output=w.output/\w'.os=w.os/\w'.tape=w.tape/\(N=0->w.drawn<=w'.drawn)):Step N ι h w ι h w' :=
 ⟨H.dom,LV _,Inj.Le.refl ι,λg l e e'=>(by rw[e'] at e;cases e),λg l e e'=>(by rw[e'] at e;cases e),λ_ _ m=>m,λ_ _ m=>m,(by rw[hh];exact LV _),λ_ _ _=>by rw[hh],
  λ_ _ _=>rfl,out,λb C e1 e2=>(by rw[e2] at e1;cases e1)⟩
theorem HRel.cell{ι:Inj}{h:Heap}{w:World}(H:HRel N ι h w){g:Nat}{l:Loc}{cs:List Value}{ro:Bool}(e:ι g=some l)(hg:h.get g=some (.cells cs ro)){i:Nat}{v:Value}
  (hv:cs[i]?=some v):∃v',w.cell? ⟨l.blk,l.base+i,none⟩=some v'/\VRel ι v v':=by
 obtain⟨C,ty,fr,h1,_,_,_,h5⟩:=H.obj g l _ e hg;obtain⟨v',h6,h7⟩:=h5 i v hv;exact⟨v',by simp[World.cell?,h1,h6],h7⟩
theorem cP(b o n:Nat):(⟨b,o,none⟩:Addr).add n=⟨b,o+n,none⟩:=by
 unfold Addr.add
 split <;> simp_all
theorem HRel.loadCells{ι:Inj}{h:Heap}{w:World}(H:HRel N ι h w){P:Program}{g:Nat}{l:Loc}{cs:List Value}{ro:Bool}(e:ι g=some l)(hg:h.get g=some (.cells cs ro)){i n:Nat}
  (hn:i+n<=cs.length):∃vs,(Go.loadCells ⟨l.blk,l.base+i,none⟩ n).run P w=.ok vs w/\bB ι ((cs.drop i).take n).toArray vs:=by
 have hc:∀j,j<n->w.cell? ⟨l.blk,l.base+i+j,none⟩=some ((w.cell? ⟨l.blk,l.base+i+j,none⟩).getD undef) /\
   VRel ι (cs.getD (i+j) undef) ((w.cell? ⟨l.blk,l.base+i+j,none⟩).getD undef):=by
  intro j hj
  have hlt:i+j<cs.length:=by omega
  obtain⟨v',h1,h2⟩:=H.cell e hg (i:=i+j) (v:=cs[i+j]) (LU hlt);rw[<- Nm] at h1;simp only[h1,NI,Mh,LU hlt];exact⟨trivial,h2⟩
 refine⟨_,run_loadCells w _ n (λj=>(w.cell? ⟨l.blk,l.base+i+j,none⟩).getD undef) (λj hj=>by rw[cP];exact (hc j hj).1),?_⟩;apply ba.array;refine ba.nf (by simp;omega) λk v v' e1 e2=>?_;rw[MX] at e1;split at e1
 .rename_i hk;rw[Nq] at e1;simp only[L7,M7 hk,MI,LR] at e2;subst e2;have:=(hc k hk).2;simpa[Mh,e1] using this
 .cases e1
def bJ(cs:List Value)(i:Nat)(vs:List Value):List Value:=cs.take i++vs++cs.drop (i+vs.length)
theorem HRel.uI{ι:Inj}{h:Heap}{w:World}(H:HRel N ι h w){P:Program}{g:Nat}{l:Loc}{cs:List Value}(e:ι g=some l)(hg:h.get g=some (.cells cs false)){i:Nat}{vs vs':List Value}
  (hr:ba ι vs vs') (hi:i<=cs.length) (hn:l.base+i+vs.length<=l.tot) (h1:∀v∈vs,v.oneCell'=true) :
  ∃w',(Sp ⟨l.blk,l.base+i,none⟩ vs').run P w=.ok () w'/\HRel N ι (h.upd g (.cells (bJ cs i vs) false)) w'/\Step N ι h w ι (h.upd g (.cells (bJ cs i vs) false)) w':=by
 obtain⟨C,ty,fr,k1,k2,k3,k4,k5⟩:=H.obj g l _ e hg;have hfr:=k2 rfl;subst hfr
 have one:∀v∈vs',v.oneCell'=true:=by
  intro v hv;obtain⟨j,hj⟩:=M1 hv
  have hlt:j<vs.length:=by have:=(LX.1 hj).1;rw[hr.1];exact this
  obtain⟨u,hu,r⟩:=hr.get (LU hlt);rw[hj] at hu;cases hu;rw[r.DG];exact h1 _ (Nw hlt)
 have hl:=hr.1;have run:=run_storeCells_at P l.blk (l.base+i) ty vs' 0 C w k1 (by omega) one;refine⟨_,run,?_⟩;have m:h.mut g:=⟨_,hg,rfl⟩;refine H.write e m (by simp) (λb hb=>setRow_other w l.blk b _ hb) ?_ ⟨rfl,rfl,rfl,λ_=>LV _⟩;rw[setRow_heap w l.blk C _ ty (0,0) k1];refine⟨_,ty,(0,0),rfl,λ_=>rfl,?_,?_,?_⟩
 .simp;omega
 .simp[bJ];omega
 .intro j v hj;simp only[bJ] at hj;simp only[OP,MR];by_cases c1:j<i
  .rw[MC,Mb (by simp;omega),MX,if_pos c1] at hj;obtain⟨v',h6,h7⟩:=k5 j v hj;refine⟨v',?_,h7⟩;rw[MC,Mb (by simp;omega),MX,if_pos (by omega)];simpa using h6
  .by_cases c2:j<i+vs.length
   .rw[MC,Mg (by simp;omega),Mb (by simp;omega)] at hj;obtain⟨v',h6,h7⟩:=hr.get hj;refine⟨v',?_,h7⟩;rw[MC,Mg (by simp;omega),Mb (by simp;omega)];rw[<- h6];congr 1;simp;omega
   .rw[Mg (by simp;omega),Nq] at hj;obtain⟨v',h6,h7⟩:=k5 _ v hj;refine⟨v',?_,h7⟩;rw[Mg (by simp;omega),Nq];simp only[Nt];rw[<- h6];congr 1;simp;omega
theorem HRel.storeCells{ι:Inj}{h:Heap}{w:World}(H:HRel N ι h w){P:Program}{g:Nat}{l:Loc}{cs:List Value}(e:ι g=some l)(hg:h.get g=some (.cells cs false)){i:Nat}{vs vs':List Value}
  (hr:ba ι vs vs') (hn:i+vs.length<=cs.length) (h1:∀v∈vs,v.oneCell'=true) :
  ∃w',(Sp ⟨l.blk,l.base+i,none⟩ vs').run P w=.ok () w'/\HRel N ι (h.upd g (.cells (bJ cs i vs) false)) w'/\Step N ι h w ι (h.upd g (.cells (bJ cs i vs) false)) w':=by
 obtain⟨C,ty,fr,k1,k2,k3,k4,k5⟩:=H.obj g l _ e hg;exact H.uI e hg hr (by omega) (by omega) h1
end Go.Abs
