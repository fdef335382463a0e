/- Parts of the proof. -/
import Derived.Test.YtglgdkineobbeaaGreatDoorTn23
open Go.Value renaming oneCell'->MV
open List renaming getD->Mh
namespace Go.Abs
def LLe(h:Heap)(xs ys:List Value):Prop:=xs.length=ys.length/\∀i:Nat,VLe h (xs.getD i undef) (ys.getD i undef)
theorem VLe.nil(h:Heap)(s:Nat):VLe h (.slice none 0 0) (FL s []):=λ_ _ _ _ _ r=>by
 cases r
 exact .flNil s
theorem LLe.refl(h:Heap)(l:List Value):LLe h l l:=⟨rfl,λ_=>VLe.refl _ _⟩
theorem LLe.nil(h:Heap):LLe h [] []:=LLe.refl h []
theorem LLe.cons{h:Heap}{x y:Value}{xs ys:List Value}(a:VLe h x y)(b:LLe h xs ys):LLe h (x::xs) (y::ys) :=
 ⟨by simp[b.1],λi=>by
  cases i with
  |zero=>simpa using a
  |succ i=>simpa using b.2 i⟩
theorem LLe.get{h:Heap}{xs ys:List Value}(r:LLe h xs ys){i:Nat}{x y:Value}(e:xs[i]?=some x)(e':ys[i]?=some y):VLe h x y:=by
 have:=r.2 i;simpa[Mh,e,e'] using this
theorem LLe.rel{N:Nat}{ι:Inj}{h:Heap}{w:World}(H:HRel N ι h w){xs ys zs:List Value}(a:LLe h xs ys)(r:ba ι xs zs):ba ι ys zs :=
 ⟨a.1.symm.trans r.1,λi=>a.2 i N ι w _ H (r.2 i)⟩
theorem LLe.E6{N:Nat}{ι:Inj}{h:Heap}{w:World}(H:HRel N ι h w){xs ys:List Value}{zs:Array Value}(a:LLe h xs ys)(r:bB ι ⟨xs⟩ zs):bB ι ⟨ys⟩ zs:=by
 rw[bB.iK] at r ⊢;exact a.rel H r
theorem VLe.agg{h:Heap}{xs ys:List Value}(a:LLe h xs ys):VLe h (.agg ⟨xs⟩) (.agg ⟨ys⟩):=λ_ _ _ _ H r=>by
 cases r with
 |agg _ z h1 h2 =>
  have:=a.E6 H ⟨h1,h2⟩;exact .agg _ _ this.1 this.2
theorem VLe.tup{h:Heap}{xs ys:List Value}(a:LLe h xs ys):VLe h (.tuple ⟨xs⟩) (.tuple ⟨ys⟩):=λ_ _ _ _ H r=>by
 cases r with
 |tuple _ z h1 h2 =>
  have:=a.E6 H ⟨h1,h2⟩;exact .tuple _ _ this.1 this.2
 |unit =>
  have:ys=[]:=M3 a.1.symm;subst this;exact .unit
theorem HRel.B4{N:Nat}{ι:Inj}{h:Heap}{w:World}(H:HRel N ι h w){g:Nat}{l:Loc}{cs:List Value}(hl:ι g=some l)(hg:h.get g=some (.cells cs true)) :
  ∃C,ι.fz l.blk=some C/\l.base+cs.length<=C.size/\∀(i:Nat) (v:Value),cs[i]?=some v->VRel ι v (C.getD (l.base+i) undef):=by
 obtain⟨C,e⟩:=H.rofz g l cs hl hg;obtain⟨ty,fr,q⟩:=H.frz _ _ e;obtain⟨C',ty',fr',q',_,_,h4,h5⟩:=H.obj g l _ hl hg;rw[q] at q'
 cases q'
 refine⟨C,e,h4,λi v hv=>?_⟩;obtain⟨v',e1,e2⟩:=h5 i v hv;rw[LW,e1];exact e2
theorem VLe.fl{h:Heap}{g off n cap s:Nat}{sp:Option Nat}{cs es:List Value}(hg:h.get g=some (.cells cs true))(hn:n=es.length)(hs:∀e∈es,(cl e).length=s)(hoff:off+n*s<=cs.length)(hc:LLe h ((cs.drop off).take (n*s)) (ah es)) :
  VLe h (.slice (some ⟨g,off,sp⟩) n cap) (FL s es):=λN ι w v' H r=>by
 have hlen:=bD hs;have hl:=hc.1;rw[hlen,L8,No] at hl
 have key:∀(l:Loc) (o cap':Nat),ι g=some l->n<=cap'->(n≠0->o=l.base+off)->VRel ι (FL s es) (.slice (some ⟨l.blk,o,none⟩) n cap'):=λl o cap' hι hcap ho=>by
  by_cases q:es=[]
  .subst q;subst hn;exact .flEmpty s _ _
  .have hn0:n≠0:=by rw[hn];intro e;exact q (M3 e)
   have ho':=ho hn0;subst ho';obtain⟨C,e1,e2,e3⟩:=H.B4 hι hg;have:=VRel.fl (ι:=ι) s es l.blk (l.base+off) cap' C e1 q (by omega) hs (by rw[<- hn];omega) (λi hi=>?_)
   .rw[<- hn] at this;exact this
   .rw[<- hn] at hi
    have hlt:off+i<cs.length:=by omega
    have e4:=e3 (off+i) _ (LU hlt);rw[<- Nm] at e4
    have hv:VLe h cs[off+i] ((ah es).getD i undef):=by
     have hi2:i<(ah es).length:=by rw[hlen,<- hn];exact hi
     have:=hc.get (i:=i) (x:=cs[off+i]) (y:=(ah es)[i]) (by rw[MX,if_pos hi,Nq,LU hlt]) (LU hi2);rw[Mh,LU hi2];exact this
    exact hv N ι w _ H e4
 cases r with
 |slice _ _ _ _ o l hι hle ho=>exact key l o cap hι hle (λhne=>ho (by omega))
 |sliceOpen _ _ _ _ _ cap' o l hι hle hcap ho htot=>exact key l o cap' hι (by omega) (λhne=>ho (by omega))
theorem VLe.els{h:Heap}{s:Nat}{es es':List Value}(hn:es'.length=es.length)(hs:∀e∈es',(cl e).length=s)(hc:LLe h (ah es) (ah es')):VLe h (FL s es) (FL s es'):=λN ι w v' H r=>by
 cases r with
 |flNil _ =>
  have:es'=[]:=M3 hn;subst this;exact .flNil s
 |flEmpty _ a cap =>
  have:es'=[]:=M3 hn;subst this;exact .flEmpty s a cap
 |fl _ _ b o cap C h0 h1 h2 h3 h4 h5 =>
  have:=VRel.fl (ι:=ι) s es' b o cap C h0 (by intro e;rw[e] at hn;exact h1 (M3 hn.symm)) (by omega) hs (by rw[hn];exact h4) (λi hi=>hc.2 i N ι w _ H (h5 i (by rw[<- hn];exact hi)));rw[hn] at this;exact this
theorem VLe.fp{h:Heap}{g off:Nat}{cs:List Value}{v:Value}(hg:h.get g=some (.cells cs true))(hle:off+(cl v).length<=cs.length)(hc:LLe h ((cs.drop off).take (cl v).length) (cl v)) :
  VLe h (.pointer (some ⟨g,off,none⟩)) (FP v):=λN ι w v' H r=>by
 cases r with
 |ptr _ _ l hι =>
  obtain⟨C,e1,e2,e3⟩:=H.B4 hι hg;refine .fp v l.blk (l.base+off) C e1 (by omega) λi hi=>?_
  have hlt:off+i<cs.length:=by omega
  have e4:=e3 (off+i) _ (LU hlt);rw[<- Nm] at e4
  have hv:VLe h cs[off+i] ((cl v).getD i undef):=by
   have:=hc.get (i:=i) (x:=cs[off+i]) (y:=(cl v)[i]) (by rw[MX,if_pos hi,Nq,LU hlt]) (LU hi);rw[Mh,LU hi];exact this
  exact hv N ι w _ H e4
def AObj.fz:AObj->AObj
 |.cells cs _=>.cells cs true
 |_=>.dead
theorem AObj.HZ(o:AObj):o.fz.mut=false:=by cases o <;> rfl
structure Frozen (b:Nat) (h h2:Heap):Prop where
 size:h2.size=h.size
 get:∀g,h2.get g=if b<=g then (h.get g).map AObj.fz else h.get g
theorem Frozen.at{b:Nat}{h h2:Heap}(F:Frozen b h h2){g:Nat}{cs:List Value}{ro:Bool}(hb:b<=g)(e:h.get g=some (.cells cs ro)):h2.get g=some (.cells cs true):=by
 rw[F.get,if_pos hb,e];rfl
theorem Frozen.ext{b:Nat}{h h2:Heap}(F:Frozen b h h2)(_hb:b<=h.size){h0:Heap}(e:Ext h0 h)(hs:h0.size<=b):Ext h0 h2 :=
 ⟨by rw[F.size];exact e.1,λg hg=>by rw[F.get,if_neg (by omega)];exact e.2 g hg⟩
section
variable {P:Program} {N:Nat}
structure FzStep (ι ι':Inj):Prop where
 at_:ι'.at_=ι.at_
 le:Inj.Le ι ι'
 own:∀b C,ι'.fz b=some C->ι.fz b=none->∃g0 l0,ι g0=some l0/\l0.blk=b
theorem FzStep.refl(ι:Inj):FzStep ι ι:=⟨rfl,Inj.Le.refl ι,λb C e e'=>by rw[e'] at e;cases e⟩
theorem FzStep.trans{ι ι' ι'':Inj}(a:FzStep ι ι')(b:FzStep ι' ι''):FzStep ι ι'':=by
 refine⟨b.at_.trans a.at_,a.le.trans b.le,λk C e e'=>?_⟩
 cases q:ι'.fz k with
 |some C'=>exact a.own k C' q e'
 |none =>
  obtain⟨g0,l0,h1,h2⟩:=b.own k C e q;rw[a.at_] at h1;exact⟨g0,l0,h1,h2⟩
theorem HRel.zK{ι:Inj}{h:Heap}{w:World}(H:HRel N ι h w){g:Nat}{ob:AObj}(hg:h.get g=some ob):∃ι':Inj,HRel N ι' (h.upd g ob.fz) w/\FzStep ι ι':=by
 have hlt:=Heap.ai hg;have get:=Heap.cc h g ob.fz
 have mutB:∀k,(h.upd g ob.fz).mut k->k≠g/\h.mut k:=λk ⟨o,e,m⟩=>by
  rw[get k hlt] at e;by_cases q:k=g
  .rw[if_pos q] at e;cases e;rw[AObj.HZ] at m;cases m
  .rw[if_neg q] at e;exact⟨q,o,e,m⟩
 have liveB:∀k,(h.upd g ob.fz).live k->h.live k:=λk ⟨o,e,m⟩=>by
  rw[get k hlt] at e;by_cases q:k=g
  .rw[if_pos q] at e;cases e;subst q;refine⟨ob,hg,?_⟩
   cases ob <;> first|rfl|exact m
  .rw[if_neg q] at e;exact⟨o,e,m⟩
 have main:∀ι':Inj,FzStep ι ι'->(∀b C,ι'.fz b=some C->∃ty fr,w.heap[b]?=some (.cells C ty fr))->(∀b C k l,ι'.fz b=some C->ι k=some l->(h.upd g ob.fz).mut k->l.blk≠b) ->
   (∀l cs,ι g=some l->ob.fz=.cells cs true->∃C,ι'.fz l.blk=some C)->∃ι':Inj,HRel N ι' (h.upd g ob.fz) w/\FzStep ι ι':=by
  intro ι' fs c1 c2 c3;have le:=fs.le
  have at':∀k,ι' k=ι k:=λk=>by rw[fs.at_]
  refine⟨ι',⟨λk l e=>H.dom k l (by rw[<- at'];exact e),λk l e=>H.blk k l (by rw[<- at'];exact e),λk hk=>?_,λk l o e1 e2=>?_,λk k' l l' e1 e2 hne m1 m2=>?_,c1,λb C k l e1 e2 m=>c2 b C k l e1 (by rw[<- at'];exact e2) m,λk l cs e1 e2=>?_⟩,fs⟩
  .obtain⟨l,e,q⟩:=H.glob k hk;exact⟨l,by rw[at'];exact e,q⟩
  .rw[at'] at e1;rw[get k hlt] at e2;by_cases q:k=g
   .rw[if_pos q] at e2;cases e2;subst q;have:=(H.obj k l ob e1 hg).mono le
    cases ob with
    |cells cs ro =>
     obtain⟨C,ty,fr,q1,q2,q3⟩:=this;exact⟨C,ty,fr,q1,(λe=>by cases e),q3⟩
    |map es=>trivial
    |iter s pos=>trivial
    |rng g3 seen n=>trivial
    |dead=>trivial
   .rw[if_neg q] at e2;exact (H.obj k l o e1 e2).mono le
  .rw[at'] at e1 e2;exact H.apart k k' l l' e1 e2 hne (mutB k m1).2 (liveB k' m2)
  .rw[at'] at e1;rw[get k hlt] at e2;by_cases q:k=g
   .rw[if_pos q] at e2;subst q;exact c3 l cs e1 (by simpa using e2)
   .rw[if_neg q] at e2;obtain⟨C,e⟩:=H.rofz k l cs e1 e2;exact⟨C,le.fz _ _ e⟩
 have stay:(∀l cs,ι g=some l->ob.fz=.cells cs true->∃C,ι.fz l.blk=some C)->∃ι':Inj,HRel N ι' (h.upd g ob.fz) w/\FzStep ι ι':=λc3 =>
  main ι (FzStep.refl ι) H.frz (λb C k l e1 e2 m=>H.fzap b C k l e1 e2 (mutB k m).2) c3
 cases hι:ι g with
 |none=>exact stay λl cs e=>by rw[hι] at e;cases e
 |some l =>
  cases ob with
  |cells cs ro =>
   obtain⟨C,ty,fr,q1,_⟩:=H.obj g l _ hι hg;have fget:∀b,(ι.frozen l.blk C).fz b=if b=l.blk then some C else ι.fz b:=λb=>rfl
   have same:∀C',ι.fz l.blk=some C'->C'=C:=λC' e=>by
    obtain⟨ty',fr',q⟩:=H.frz _ _ e;rw[q1] at q;cases q;rfl
   refine main (ι.frozen l.blk C) ⟨rfl,⟨λ_ _ e=>e,λb C' e=>?_⟩,λb C' e e'=>?_⟩ (λb C' e=>?_) (λb C' k l' e1 e2 m=>?_) (λl' cs' e _=>?_)
   .rw[fget];by_cases q:b=l.blk
    .rw[if_pos q];subst q;rw[same C' e]
    .rw[if_neg q];exact e
   .rw[fget] at e;by_cases q:b=l.blk
    .exact⟨g,l,hι,q.symm⟩
    .rw[if_neg q,e'] at e;cases e
   .rw[fget] at e;by_cases q:b=l.blk
    .rw[if_pos q] at e;cases e;subst q;exact⟨ty,fr,q1⟩
    .rw[if_neg q] at e;exact H.frz b C' e
   .rw[fget] at e1;obtain⟨m1,m2⟩:=mutB k m;by_cases q:b=l.blk
    .rw[q];exact H.apart k g l' l e2 hι m1 m2 ⟨_,hg,rfl⟩
    .rw[if_neg q] at e1;exact H.fzap b C' k l' e1 e2 m2
   .rw[hι] at e;cases e;exact⟨C,by rw[fget,if_pos rfl]⟩
  |map es=>exact stay λl cs _ e=>by cases e
  |iter s pos=>exact stay λl cs _ e=>by cases e
  |rng g3 seen n=>exact stay λl cs _ e=>by cases e
  |dead=>exact stay λl cs _ e=>by cases e
theorem HRel.sZ{ι:Inj}{h:Heap}{w:World}(H:HRel N ι h w)(b:Nat):∃(ι':Inj) (h2:Heap),HRel N ι' h2 w/\Frozen b h h2/\FzStep ι ι':=by
 have key:∀k,∃(ι':Inj) (h2:Heap),HRel N ι' h2 w/\(h2.size=h.size/\∀g,h2.get g=if b<=g/\g<b+k then (h.get g).map AObj.fz else h.get g)/\FzStep ι ι':=by
  intro k
  induction k with
  |zero=>exact⟨ι,h,H,⟨rfl,λg=>by rw[if_neg (by omega)]⟩,FzStep.refl ι⟩
  |succ k ih =>
   obtain⟨ι1,h1,H1,⟨s1,g1⟩,f1⟩:=ih
   cases e:h1.get (b+k) with
   |none =>
    have e0:h.get (b+k)=none:=by
     have:=g1 (b+k);rw[if_neg (by omega)] at this;rw[<- this];exact e
    refine⟨ι1,h1,H1,⟨s1,λg=>?_⟩,f1⟩;rw[g1];by_cases q:g=b+k
    .subst q;rw[if_neg (by omega),if_pos (by omega),e0];rfl
    .by_cases q2:b<=g/\g<b+k
     .rw[if_pos q2,if_pos (by omega)]
     .rw[if_neg q2,if_neg (by omega)]
   |some ob =>
    have e0:h.get (b+k)=some ob:=by
     have:=g1 (b+k);rw[if_neg (by omega)] at this;rw[<- this];exact e
    obtain⟨ι2,H2,f2⟩:=H1.zK e;refine⟨ι2,_,H2,⟨s1,λg=>?_⟩,f1.trans f2⟩;rw[Heap.cc _ _ _ _ (Heap.ai e)];by_cases q:g=b+k
    .subst q;rw[if_pos rfl,if_pos (by omega),e0];rfl
    .rw[if_neg q,g1];by_cases q2:b<=g/\g<b+k
     .rw[if_pos q2,if_pos (by omega)]
     .rw[if_neg q2,if_neg (by omega)]
 obtain⟨ι',h2,H2,⟨s2,g2⟩,f2⟩:=key (h.size-b);refine⟨ι',h2,H2,⟨s2,λg=>?_⟩,f2⟩;rw[g2];by_cases q:b<=g
 .rw[if_pos q];by_cases q2:g<b+(h.size-b)
  .rw[if_pos ⟨q,q2⟩]
  .rw[if_neg (λc=>q2 c.2)]
   cases e:h.get g with
   |none=>rfl
   |some ob=>have:=Heap.ai e;omega
 .rw[if_neg q,if_neg (λc=>q c.1)]
theorem sX{ι ι':Inj}{h h2:Heap}{w w':World}(H:HRel N ι h w)(H':HRel N ι' h2 w')(ext:Inj.Le ι ι')(wsize:w.heap.size<=w'.heap.size)(frame:∀b,b<w.heap.size->(∀g l,ι g=some l->h.mut g->l.blk≠b)->w'.heap[b]?=w.heap[b]?)
  (out:w'.output=w.output/\w'.os=w.os/\w'.tape=w.tape/\(N=0->w.drawn<=w'.drawn)) (fzown:∀b C,ι'.fz b=some C->ι.fz b=none->w.heap.size<=b\/∃g0 l0,ι g0=some l0/\l0.blk=b) (e:Ext h h2) :
  HRel N (ι.with ι') h w'/\Step N ι h w (ι.with ι') h w':=by
 refine⟨⟨H.dom,λg l q=>Mr (H.blk g l q) wsize,H.glob,λg l o q1 q2=>?_,H.apart,H'.frz,λb C g l q0 q1 m=>?_,λg l cs q1 q2=>?_⟩,?_⟩
 .exact (H.obj g l o q1 q2).both ext (H'.obj g l o (ext.at_ g l q1) (e.get q2))
 .obtain⟨o,m1,m2⟩:=m;exact H'.fzap b C g l q0 (ext.at_ g l q1) ⟨o,e.get m1,m2⟩
 .exact H'.rofz g l cs (ext.at_ g l q1) (e.get q2)
 .exact⟨H.dom,LV _,⟨λ_ _ q=>q,ext.fz⟩,λg l q1 q2=>(by have q3:ι g=some l:=q1;rw[q2] at q3;cases q3),λg l q1 q2=>(by have q3:ι g=some l:=q1;rw[q2] at q3;cases q3),λ_ _ m=>m,λ_ _ m=>m,wsize,frame,λ_ _ _=>rfl,out,fzown⟩
def aH(B:List AObj)(h:Heap):Prop:=∀(i:Nat) (o:AObj),B[i]?=some o->h.get i=some o
structure FnV (P:Program) (N:Nat) (B:List AObj) (f:FuncId) (vs:Array Value) (r:Value):Prop where
 pure:aq r
 call:∀h,aH B h->al P N f vs h r h
variable {B:List AObj}
theorem aH.ext{h h1:Heap}(b:aH B h)(e:Ext h h1):aH B h1:=λi o q=>e.get (b i o q)
theorem al.values{f:FuncId}{vs:Array Value}{h h1:Heap}{v r:Value}(c:al P N f vs h v h1)(e:Ext h h1)(hr:aq r)(hv:∀h2,Frozen h.size h1 h2->VLe h2 v r)(fok:lp P f=true):al P N f vs h r h:=by
 refine⟨LV _,λι w vs' H ra=>?_⟩
 rcases c.2 ι w vs' H ra with⟨ok,hc⟩|⟨v',e1,e2,_⟩
 .refine .inl ⟨ok,hc.mono λe' w' q=>?_⟩;obtain⟨ι',v',rfl,r',H',S⟩:=q;obtain⟨ι2,h2,H2,F,fs⟩:=H'.sZ h.size;have hx:Ext h h2:=F.ext e.1 e (LV _);have rr:VRel ι2 r v':=hv h2 F N ι2 w' v' H2 (r'.mono fs.le);have core:=sX H H2 (S.ext.trans fs.le) S.wsize S.frame S.out (λb C q1 q2=>?_) hx
  .exact⟨ι.with ι2,v',rfl,hr ι2 _ v' (λ_ _ q=>q) rr,core⟩
  .cases q3:ι'.fz b with
   |some C'=>exact S.fzown b C' q3 q2
   |none =>
    obtain⟨g0,l0,h1,h2⟩:=fs.own b C q1 q3
    cases q4:ι g0 with
    |some l1 =>
     have:=S.ext.at_ g0 l1 q4;rw[h1] at this;cases this;exact .inr ⟨g0,l0,q4,h2⟩
    |none =>
     rcases S.own g0 l0 h1 q4 with k1|⟨g1,l1,k1,_,k2⟩
     .exact .inl (h2 ▸ k1)
     .exact .inr ⟨g1,l1,k1,k2.trans h2⟩
 .exfalso;have:=fj (w:=w) fok vs';rw[this] at e1
  cases e1
abbrev Slot:=Option Nat×AObj
inductive At (p:Slot):List Slot->(Slot->List Slot)->Prop
 |head (L:List Slot):At p (p::L) (λq=>q::L)
 |tail (r:Slot) {L:List Slot} {f:Slot->List Slot}:At p L f->At p (r::L) (λq=>r::f q)
theorem At.mem{p:Slot}{L:List Slot}{f:Slot->List Slot}(a:At p L f):p∈L:=by
 induction a with
 |head L=>exact .head _
 |tail r _ ih=>exact .tail _ ih
theorem At.mem_of{p q x:Slot}{L:List Slot}{f:Slot->List Slot}(a:At p L f)(m:x∈f q):x=q\/x∈L:=by
 induction a with
 |head L =>
  rcases MF.1 m with h|h
  .exact .inl h
  .exact .inr (.tail _ h)
 |tail r _ ih =>
  rcases MF.1 m with h|h
  .exact .inr (by rw[h];exact .head _)
  .rcases ih h with h|h
   .exact .inl h
   .exact .inr (.tail _ h)
def lr(p q:Slot):Prop:=∀g,p.1=some g->q.1≠some g
theorem At.apart{p q:Slot}{L:List Slot}{f:Slot->List Slot}(a:At p L f)(ha:L.Pairwise lr)(hq:∀x∈L,(∀g,p.1=some g->x.1≠some g)\/x=p->lr q x/\lr x q\/x=p):(f q).Pairwise lr:=by
 induction a with
 |head L =>
  rw[MU] at ha ⊢;refine⟨λx m=>?_,ha.2⟩
  rcases hq x (.tail _ m) (.inl (ha.1 x m)) with h|h
  .exact h.1
  .intro g hg hx;subst h;exact ha.1 _ m g hx hx
 |tail r a ih =>
  rename_i L f;rw[MU] at ha ⊢;refine⟨λx m=>?_,ih ha.2 (λx m=>hq x (.tail _ m))⟩
  rcases a.mem_of m with h|h
  .subst h;have:=ha.1 p a.mem
   rcases hq r (.head _) (.inl (λg hg hr=>this g hr hg)) with h|h
   .exact h.2
   .intro g hg _;subst h;exact this g hg hg
  .exact ha.1 x h
structure Own (B:List AObj) (h0:Heap) (L:List Slot) (h:Heap):Prop where
 base:aH B h0
 ext:Ext h0 h
 get:∀g o,(some g,o)∈L->h0.size<=g/\h.get g=some o
 apart:L.Pairwise lr
theorem Own.start{h:Heap}(b:aH B h):Own B h [] h:=⟨b,Ext.refl h,(λ_ _ m=>by cases m),.nil⟩
section
variable {h0 h:Heap} {L:List Slot}
theorem Own.at(O:Own B h0 L h){g:Nat}{o:AObj}(m:(some g,o)∈L):h.get g=some o:=(O.get g o m).2
theorem Own.i0{g:Nat}{o:AObj}(O:Own B h0 ((some g,o)::L) h):h.get g=some o:=O.at (.head _)
theorem Own.i1{s0:Slot}{g:Nat}{o:AObj}(O:Own B h0 (s0::(some g,o)::L) h):h.get g=some o:=O.at (.tail _ (.head _))
theorem Own.i2{s0 s1:Slot}{g:Nat}{o:AObj}(O:Own B h0 (s0::s1::(some g,o)::L) h):h.get g=some o:=O.at (.tail _ (.tail _ (.head _)))
theorem Own.i3{s0 s1 s2:Slot}{g:Nat}{o:AObj}(O:Own B h0 (s0::s1::s2::(some g,o)::L) h):h.get g=some o:=O.at (.tail _ (.tail _ (.tail _ (.head _))))
theorem Own.i4{s0 s1 s2 s3:Slot}{g:Nat}{o:AObj}(O:Own B h0 (s0::s1::s2::s3::(some g,o)::L) h):h.get g=some o:=O.at (.tail _ (.tail _ (.tail _ (.tail _ (.head _)))))
theorem Own.i5{s0 s1 s2 s3 s4:Slot}{g:Nat}{o:AObj}(O:Own B h0 (s0::s1::s2::s3::s4::(some g,o)::L) h):h.get g=some o:=O.at (.tail _ (.tail _ (.tail _ (.tail _ (.tail _ (.head _))))))
theorem Own.i6{s0 s1 s2 s3 s4 s5:Slot}{g:Nat}{o:AObj}(O:Own B h0 (s0::s1::s2::s3::s4::s5::(some g,o)::L) h):h.get g=some o:=O.at (.tail _ (.tail _ (.tail _ (.tail _ (.tail _ (.tail _ (.head _)))))))
theorem Own.has(O:Own B h0 L h):aH B h:=O.base.ext O.ext
theorem Own.tail{p:Slot}(O:Own B h0 (p::L) h):Own B h0 L h:=⟨O.base,O.ext,λg o m=>O.get g o (.tail _ m),(MU.1 O.apart).2⟩
theorem Own.sub(O:Own B h0 L h){L':List Slot}(hs:∀x∈L',x∈L)(ha:L'.Pairwise lr):Own B h0 L' h:=⟨O.base,O.ext,λg o m=>O.get g o (hs _ m),ha⟩
theorem Own.push(O:Own B h0 L h){ob:AObj}{h1:Heap}(n:New h ob h1):Own B h0 ((some h.size,ob)::L) h1:=by
 refine⟨O.base,n.exts O.ext,λg o m=>?_,MU.2 ⟨λx m g e e'=>?_,O.apart⟩⟩
 .rcases MF.1 m with m|m
  .cases m
   exact⟨O.ext.1,n.get⟩
  .exact⟨(O.get g o m).1,n.keep (O.get g o m).2⟩
 .obtain⟨x1,x2⟩:=x;simp only at e e';subst e'
  cases e
  have:=Heap.ai (O.get _ _ m).2;omega
theorem Own.upd(O:Own B h0 L h){g:Nat}{o ob:AObj}{f:Slot->List Slot}(a:At (some g,o) L f){h1:Heap}(u:Upd h g ob h1):Own B h0 (f (some g,ob)) h1:=by
 have hg:=O.get g o a.mem;refine⟨O.base,u.ext O.ext hg.1,λk x m=>?_,a.apart O.apart λx m hx=>?_⟩
 .have key:∀{L:List Slot} {f:Slot->List Slot},At (some g,o) L f->L.Pairwise lr->(some k,x)∈f (some g,ob)->(k=g/\x=ob)\/(k≠g/\(some k,x)∈L):=by
   intro L f a
   induction a with
   |head L =>
    intro ha m
    rcases MF.1 m with m|m
    .cases m;exact .inl ⟨rfl,rfl⟩
    .have hap:=(MU.1 ha).1 _ m;refine .inr ⟨λe=>?_,.tail _ m⟩;subst e;exact hap k rfl rfl
   |tail r a ih =>
    intro ha m;have hap:=(MU.1 ha).1 _ a.mem
    rcases MF.1 m with m|m
    .refine .inr ⟨λe=>?_,by rw[m];exact .head _⟩;subst m;subst e;exact hap k rfl rfl
    .rcases ih (MU.1 ha).2 m with q|⟨q1,q2⟩
     .exact .inl q
     .exact .inr ⟨q1,.tail _ q2⟩
  rcases key a O.apart m with⟨rfl,rfl⟩|⟨q1,q2⟩
  .exact⟨hg.1,u.get⟩
  .exact⟨(O.get k x q2).1,u.keep q1 (O.get k x q2).2⟩
 .rcases hx with hx|hx
  .refine .inl ⟨λk e e'=>?_,λk e e'=>?_⟩
   .cases e;exact hx g rfl e'
   .cases e';exact hx g rfl e
  .exact .inr hx
theorem Own.aZ(O:Own B h0 L h)(ob:AObj):Own B h0 ((none,ob)::L) h :=
 ⟨O.base,O.ext,λg o m=>by
  rcases MF.1 m with m|m
  .cases m
  .exact O.get g o m,MU.2 ⟨(λx _ g e=>by cases e),O.apart⟩⟩
theorem Own.new{ρ:Operand->Value}{o:Oper}{K:Value->Heap->Prop}{ob:AObj}{f:Nat->Value}(O:Own B h0 L h)(e:ew P ρ o=some (ob,f))(k:∀g h1,Own B h0 ((some g,ob)::L) h1->K (f g) h1):NewG P ρ o h K :=
 .obj e λh1 n=>k h.size h1 (O.push n)
theorem Own.oN{ρ:Operand->Value}{o:Oper}{K:Value->Heap->Prop}{ob:AObj}{f:Nat->Value}(O:Own B h0 L h)(e:ew P ρ o=some (ob,f))(k:∀g h1,Own B h0 ((some g,ob)::L) h1->K (f g) h1) :
  ∃ob f,ew P ρ o=some (ob,f)/\∀h1,New h ob h1->K (f h.size) h1 :=
 ⟨ob,f,e,λh1 n=>k h.size h1 (O.push n)⟩
variable {ρ:Operand->Value} {d:Option Tmp} {ty:TypeId} {pos:String} {af:Array Edge} {gd:Option (Nat×Bool)}
theorem Own.store{t:TypeId}{a x:Operand}{g off n:Nat}{cs l cs':List Value}{f:Slot->List Slot}{K:Value->Heap->Prop}(O:Own B h0 L h)(A:At (some g,.cells cs false) L f)(ha:ρ a=.pointer (some ⟨g,off,none⟩))(hs:bb P t=some n)(hx:cl (ρ x)=l)(hl:l.length=n)
  (hle:off+n<=cs.length) (h1:l.all MV=true) (hcs:bJ cs off l=cs') (k:∀h1,Own B h0 (f (some g,.cells cs' false)) h1->K undef h1) :
  ∃(v:Value) (T:Heap->Prop),(∃h',cZ P ρ { dst:=d,op:=.store t a x,type:=ty,pos:=pos,after:=af,guard:=gd } h=some (v,h')/\T h')/\∀h1,T h1->K v h1:=by
 subst hcs;exact GZ ha (O.at A.mem) hs hx hl hle h1 λh1 u=>k h1 (O.upd A u)
theorem Lk{t e:TypeId}{x i:Operand}{s j:Nat}{es:List Value}{kk:IntKind}{u:Value}{K:Value->Prop}(hu:P.underlying t=some (.slice e))(hs:bb P e=some s)(hx:ρ x=FL s es)(hi:ρ i=.int kk (Int.ofNat j))(he:es[j]?=some u)(hk:K (FP u)) :
  ∃v,aC P ρ { dst:=d,op:=.indexAddr t x i,type:=ty,pos:=pos,after:=af,guard:=gd }=some v/\K v:=by
 refine⟨_,?_,hk⟩;unfold aC;have:Nat.beq s s=true:=Ra s;simp only[hu,hx,hi,hs,FL,this,L4]
 show (match es[j]? with|some u=>some (FP u) | none=>none)=_
 rw[he]
theorem Own.append{ts tx te:TypeId}{dx:TypeDesc}{x y:Operand}{s b m:Nat}{a:Option Nat}{l new l':List Value}{z:Value}{f:Slot->List Slot}{K:Value->Heap->Prop}(O:Own B h0 L h)(A:At (a,.cells (ah l) false) L f)(ha:a=none->l=[])
  (hts:P.underlying ts=some (.slice te)) (htx:P.underlying tx=some dx) (hni:fh dx=true) (hs:bb P te=some s) (hb:kH P te=some b) (hz:zeroOf P te=some z) (hzs:z.cells.size=s)
  (hx:ρ x=ak s a l) (hy:lenOf (ρ y)=some m) (hf:bT h s m (ρ y)=some (ah new)) (hm:new.length=m) (hsz:∀e∈l++new,(cl e).length=s) (hno:(ah new).all MV=true)
  (hb0:0<b) (hlim:(l.length+m)*b<=2^47) (hl':l++new=l')
  (k:∀a' h1,(a'=none->l'=[])->Own B h0 (f (a',.cells (ah l') false)) h1->K (ak s a' l') h1) :
  ∃(v:Value) (T:Heap->Prop),(∃h',cZ P ρ { dst:=d,op:=.call { callee:=.builtin .append,args := #[x,y],argTypes := #[ts,tx] },type:=ty,pos:=pos,after:=af,guard:=gd } h=some (v,h')/\T h')/\∀h1,T h1->K v h1:=by
 subst hl';have hnew:∀e∈new,(cl e).length=s:=λe q=>hsz e (Nd _ q);have hold:∀e∈l,(cl e).length=s:=λe q=>hsz e (MA _ q)
 have hlen:(ah new).length=m*s:=by rw[bD hnew,hm]
 have hll:(ah l).length=l.length*s:=bD hold
 have hvl:(l++new).length=l.length+m:=by rw[Ml,hm]
 unfold cZ fa;simp only[MM,ND,hx,ak,hts,htx,hni,if_true,hs,hb,hz,hy,hf];unfold dI;by_cases hm0:m=0
 .subst hm0;have hn:new=[]:=M3 hm;subst hn;rw[MZ] at k;rw[if_pos rfl,if_pos ⟨by simp[ah],LV _⟩];refine⟨_,λh1=>h1=h,⟨h,rfl,rfl⟩,λh1 e=>?_⟩;subst e
  have:f (a,.cells (ah l) false)=L:=by
   clear k O
   induction A with
   |head L=>rfl
   |tail r _ ih=>exact congrArg (List.cons r) ih
  exact k a h1 ha (by rw[this];exact O)
 .rw[if_neg hm0,if_neg (by omega:¬ l.length+m<=l.length),if_pos ⟨hb0,hlim,hzs,hlen,hno⟩];refine⟨.slice (some ⟨h.size,0,some s⟩) (l.length+m) (l.length+m),λh1=>Own B h0 (f (some h.size,.cells (ah (l++new)) false)) h1,?_,λh1 q=>?_⟩
  .have fin:∀hd:Heap,hd.size=h.size->(∀k,h0.size<=k->a≠some k->hd.get k=h.get k)->Ext h0 hd->Own B h0 (f (some h.size,.cells (ah (l++new)) false)) (hd.push (.cells (ah (l++new)) false)):=by
    intro hd hsz' hget hext;refine⟨O.base,hext.trans ⟨NB _,λg hg=>by rw[Heap.bq,if_neg (by omega)]⟩,λk x m=>?_,A.apart O.apart λx m hx=>?_⟩
    .have key:∀{L:List Slot} {f:Slot->List Slot},At (a,.cells (ah l) false) L f->L.Pairwise lr->(some k,x)∈f (some h.size,.cells (ah (l++new)) false)->(k=h.size/\x=.cells (ah (l++new)) false)\/(a≠some k/\(some k,x)∈L):=by
      intro L f a
      induction a with
      |head L =>
       intro ha m
       rcases MF.1 m with m|m
       .cases m;exact .inl ⟨rfl,rfl⟩
       .exact .inr ⟨λe=>(MU.1 ha).1 _ m k e rfl,.tail _ m⟩
      |tail r a ih =>
       intro ha m;have hap:=(MU.1 ha).1 _ a.mem
       rcases MF.1 m with m|m
       .refine .inr ⟨λe=>?_,by rw[m];exact .head _⟩;subst m;exact hap k rfl e
       .rcases ih (MU.1 ha).2 m with q|⟨q1,q2⟩
        .exact .inl q
        .exact .inr ⟨q1,.tail _ q2⟩
     rcases key A O.apart m with⟨rfl,rfl⟩|⟨q1,q2⟩
     .exact⟨O.ext.1,by rw[Heap.bq,if_pos hsz'.symm]⟩
     .obtain⟨r1,r2⟩:=O.get k x q2;have:=Heap.ai r2;exact⟨r1,by rw[Heap.bq,if_neg (by omega),hget k r1 q1];exact r2⟩
    .by_cases q:x.1=some h.size
     .exfalso;obtain⟨x1,x2⟩:=x;simp only at q;subst q;have:=Heap.ai (O.get _ _ m).2;omega
     .refine .inl ⟨λg e e'=>?_,λg e e'=>?_⟩
      .cases e;exact q e'
      .cases e';exact q e
   cases a with
   |none =>
    have:=ha rfl;subst this;refine⟨_,rfl,?_⟩;have:=fin h rfl (λ_ _ _=>rfl) O.ext;simpa[ah] using this
   |some g =>
    obtain⟨hgs,hgg⟩:=O.get g _ A.mem;have hlt:=Heap.ai hgg;simp only[MI,hgg];rw[if_pos ⟨by omega,trivial⟩];refine⟨_,rfl,?_⟩;have:=fin (h.upd g .dead) rfl (λk _ hne=>by rw[Heap.cc _ _ _ _ hlt,if_neg (λe=>hne (by rw[e]))]) ⟨O.ext.1,λk hk=>by rw[Heap.cc _ _ _ _ hlt,if_neg (by omega)];exact O.ext.2 k hk⟩;rw[ck] at this ⊢
    have e1:((ah l).drop 0).take (l.length*s)=ah l:=by rw[M0,<- hll,Ng]
    rw[e1];exact this
  .have:=k (some h.size) h1 (λe=>by cases e) q;rw[ak,hvl] at this;exact this
theorem B5{h:Heap}{g n s m cap:Nat}{sp:Option Nat}{cs:List Value}{ro:Bool}(hg:h.get g=some (.cells cs ro))(hn:n*s=cs.length):bT h s n (.slice (some ⟨g,0,sp⟩) m cap)=some cs:=by
 simp only[bT,hg,Nu,M0,hn,LV,if_true,Ng]
theorem Own.Ij{ts tx te:TypeId}{dx:TypeDesc}{x y:Operand}{s b m n g:Nat}{ro:Bool}{cs new cs':List Value}{z:Value}{K:Value->Heap->Prop}(O:Own B h0 L h)(hg:h.get g=some (.cells cs ro))
  (hts:P.underlying ts=some (.slice te)) (htx:P.underlying tx=some dx) (hni:fh dx=true) (hs:bb P te=some s) (hb:kH P te=some b) (hz:zeroOf P te=some z) (hzs:z.cells.size=s)
  (hx:ρ x=.slice (some ⟨g,0,none⟩) n n) (hn:n*s=cs.length) (hy:lenOf (ρ y)=some m) (hf:bT h s m (ρ y)=some new) (hm:new.length=m*s) (hm0:0<m) (hno:new.all MV=true)
  (hb0:0<b) (hlim:(n+m)*b<=2^47) (hcs:cs++new=cs')
  (k:∀g' h1,Own B h0 ((some g',.cells cs' false)::L) h1->K (.slice (some ⟨g',0,some s⟩) (n+m) (n+m)) h1) :
  ∃(v:Value) (T:Heap->Prop),(∃h',cZ P ρ { dst:=d,op:=.call { callee:=.builtin .append,args := #[x,y],argTypes := #[ts,tx] },type:=ty,pos:=pos,after:=af,guard:=gd } h=some (v,h')/\T h')/\∀h1,T h1->K v h1:=by
 subst hcs;unfold cZ fa;simp only[MM,ND,hx,hts,htx,hni,if_true,hs,hb,hz,hy,hf];unfold dI;rw[if_neg (by omega),if_neg (by omega:¬ n+m<=n),if_pos ⟨hb0,hlim,hzs,hm,hno⟩];simp only[hg];rw[if_pos (by omega)];refine⟨_,λh1=>h1=h.push (.cells (cs++new) false),⟨_,rfl,?_⟩,λh1 e=>?_⟩
 .rw[M0,hn,Ng]
 .subst e;exact k h.size _ (O.push (New.push h _))
theorem jQ{ι:Inj}{w:World}(H:HRel N ι h w){g:Nat}{l:Loc}(hl:ι g=some l){cs:List Value}{ro:Bool}(hg:h.get g=some (.cells cs ro)) :
  ∃ι':Inj,HRel N ι' (h.upd g (.cells cs true)) w/\Step N ι h w ι' (h.upd g (.cells cs true)) w:=by
 obtain⟨ι',H',fs⟩:=H.zK hg;have hlt:=Heap.ai hg
 have at':∀k,ι' k=ι k:=λk=>by rw[fs.at_]
 refine⟨ι',H',H.dom,LV _,fs.le,λk l e e'=>?_,λk l e e'=>?_,λk _ m=>?_,λk _ m=>?_,LV _,λ_ _ _=>rfl,λk _ e=>?_,⟨rfl,rfl,rfl,λ_=>LV _⟩,λb C e e'=>.inr (fs.own b C e e')⟩
 .rw[at',e'] at e;cases e
 .rw[at',e'] at e;cases e
 .obtain⟨o,e,m⟩:=m;rw[Heap.cc _ _ _ _ hlt] at e;by_cases q:k=g
  .rw[if_pos q] at e;cases e;cases m
  .rw[if_neg q] at e;exact⟨o,e,m⟩
 .obtain⟨o,e,m⟩:=m;rw[Heap.cc _ _ _ _ hlt] at e;by_cases q:k=g
  .subst q;exact⟨_,hg,rfl⟩
  .rw[if_neg q] at e;exact⟨o,e,m⟩
 .rw[Heap.cc _ _ _ _ hlt,if_neg (λq=>by rw[q,hl] at e;cases e)]
theorem Own.flat{b s n cap:Nat}{sp:Option Nat}{g:Nat}{es cs:List Value}{ro:Bool}{h2:Heap}(O:Own B h0 L h)(F:Frozen b h h2)(hb:b<=h0.size)(m:(some g,.cells cs ro)∈L)(hcs:cs=ah es)(hn:n=es.length)(hs:∀e∈es,(cl e).length=s) :
  VLe h2 (.slice (some ⟨g,0,sp⟩) n cap) (FL s es):=by
 obtain⟨q1,q2⟩:=O.get g _ m;subst hcs hn;refine VLe.fl (F.at (Mf hb q1) q2) rfl hs (by rw[bD hs];omega) ?_;rw[M0,<- bD hs,Ng];exact LLe.refl _ _
theorem Own.grown{b s:Nat}{a:Option Nat}{es:List Value}{ro:Bool}{h2:Heap}(O:Own B h0 L h)(F:Frozen b h h2)(hb:b<=h0.size)(m:(a,.cells (ah es) ro)∈L)(ha:a=none->es=[])(hs:∀e∈es,(cl e).length=s):VLe h2 (ak s a es) (FL s es):=by
 cases a with
 |none =>
  have:=ha rfl;subst this;exact VLe.nil _ _
 |some g=>exact O.flat F hb m rfl rfl hs
end
theorem fnH(hM:P.follows .mixedOrders=true){f:FuncId}{fn:Func}{c:Code}(hf:P.funcs[f]?=some fn)(hb:fn.body=some c)(ho:jO N fn=true){vs:Array Value}(hs:vs.size<=fn.ntmps){r:Value}{h:Heap}(hB:aH B h)(hr:aq r)
  (hk:Own B h [] h->CodeS P N c (cM fn.ntmps vs) h λx e1 h1=>match x with
   |.exit _=>False
   |_=>mu P e1 h1 fn.results.toList λvs=>Ext h h1/\∀h2,Frozen h.size h1 h2->VLe h2 (sQ vs) r):al P N f vs h r h:=by
 obtain⟨v,h',c1,e,q⟩:=fnG hM hf hb ho hs (Q:=λv h1=>Ext h h1/\∀h2,Frozen h.size h1 h2->VLe h2 v r) (hk (Own.start hB));exact c1.values e hr q (nw hf hb ho).1
theorem Own.ret{h0 h:Heap}{L:List Slot}(O:Own B h0 L h){v:Value}:Ext h0 h/\∀h2,Frozen h0.size h h2->VLe h2 v v:=⟨O.ext,λ_ _=>VLe.refl _ _⟩
end
end Go.Abs
