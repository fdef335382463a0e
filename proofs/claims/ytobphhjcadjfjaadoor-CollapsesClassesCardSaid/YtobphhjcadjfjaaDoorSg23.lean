/-
  AbsU: parts of the proof.
-/
import Derived.Test.YtobphhjcadjfjaaDoorSg22
namespace Go.Abs
theorem HRel.grow {N:Nat}{ι:Inj}{h:Heap}{w w':World} (H:HRel N ι h w) (hs:w.heap.size<=w'.heap.size) (hf:∀ b,b<w.heap.size->w'.heap[b]?=w.heap[b]?):HRel N ι h w' :=
 ⟨H.dom,fun g l e=>Nat.lt_of_lt_of_le (H.blk g l e) hs,H.glob,fun g l o e1 e2=>by rw[hf _ (H.blk g l e1)];exact H.obj g l o e1 e2,H.apart,fun b C e=>(by
  obtain⟨ty,fr,q⟩:=H.frz b C e
  rw[hf b (Array.getElem?_eq_some_iff.1 q).1]
  exact⟨ty,fr,q⟩),H.fzap,H.rofz⟩
theorem Step.grow {ι:Inj}{h:Heap}{w w':World} (dom:∀ g l,ι g=some l->g<h.size) (hs:w.heap.size<=w'.heap.size) (hf:∀ b,b<w.heap.size->w'.heap[b]?=w.heap[b]?)
  (out:w'.output=w.output/\w'.os=w.os/\w'.tape=w.tape/\w.drawn<=w'.drawn):Step ι h w ι h w' :=
 ⟨dom,Nat.le_refl _,Inj.Le.refl ι,fun g l e e'=>(by rw[e'] at e;cases e),fun g l e e'=>(by rw[e'] at e;cases e),fun _ _ m=>m,fun _ _ m=>m,hs,fun b hb _=>hf b hb,fun _ _ _=>rfl,out,fun b C e e'=>(by rw[e'] at e;cases e)⟩
theorem aX.bH {ι:Inj}{vs vs':Array Value} (r:aX ι vs vs') (hall:vs.all plain=true):vs'=vs:=by
 apply Array.ext r.1.symm
 intro i h1 h2
 have q:=r.2 i
 have hp':plain (vs.getD i undef)=true:=by
  rw[Array.getD_eq_getD_getElem?,Array.getElem?_eq_getElem h2]
  exact (Array.all_eq_true_iff_forall_mem.1 hall) _ (Array.getElem_mem h2)
 have:=q.bH hp'
 rw[Array.getD_eq_getD_getElem?,Array.getD_eq_getD_getElem?,Array.getElem?_eq_getElem h1,Array.getElem?_eq_getElem h2] at this
 simpa using this
theorem aX.nr {ι:Inj}{vs:Array Value} (hall:vs.all plain=true):aX ι vs vs:=by
 refine⟨rfl,fun i=>?_⟩
 rw[Array.getD_eq_getD_getElem?]
 cases e:vs[i]? with
 |none=>exact VRel.nothing ι
 |some v=>exact VRel.aH ((Array.all_eq_true_iff_forall_mem.1 hall) v (Array.mem_of_getElem? e))
def fO (v:Value):Bool :=
 match v with
 |.tuple vs=>vs.all plain
 |v=>plain v
theorem VRel.mb {ι:Inj}{v v':Value} (r:VRel ι v v') (h:fO v=true):v'=v:=by
 cases v with
 |tuple vs =>
  cases r with
  |tuple a a' h1 h2=>exact congrArg Value.tuple (aX.bH ⟨h1,h2⟩ h)
  |unit=>rfl
 |_=>exact r.bH h
theorem VRel.iq {ι:Inj}{v:Value} (h:fO v=true):VRel ι v v:=by
 cases v with
 |tuple vs =>
  have:=aX.nr (ι:=ι) (vs:=vs) h
  exact .tuple _ _ this.1 this.2
 |_=>exact VRel.aH h
def Bears (N:Nat) (h0 h:Heap):Prop:=h0.size=N/\N<=h.size/\∀ g o,h0.get g=some o->o=.dead\/∃ cs,o=.cells cs true/\h.get g=some o/\cs.all plain=true
theorem CallD.lift {P:Program}{N:Nat}{f:FuncId}{vs:Array Value}{v:Value}{h0 h0' h:Heap} (c:CallD P N f vs h0 v h0') (hvs:vs.all plain=true) (hv:fO v=true) (b:Bears N h0 h):CallD P N f vs h v h:=by
 obtain⟨hN,hle,hb⟩:=b
 refine⟨Nat.le_refl _,fun ι w vs' H r=>?_⟩
 have hvv:=r.bH hvs
 subst hvv
 have nomut:∀ g,¬ h0.mut g:=by
  rintro g ⟨o,e,m⟩
  rcases hb g o e with rfl|⟨cs,rfl,_⟩
  ·cases m
  ·cases m
 have hι:∀ g l,(cut ι N) g=some l->g<N/\ι g=some l:=fun g l e=>ar.1 e
 have H0:HRel N (cut ι N) h0 w:=by
  refine⟨fun g l e=>hN ▸ (hι g l e).1,fun g l e=>H.blk g l (hι g l e).2,?_,?_,fun g g' l l' _ _ _ m _=>absurd m (nomut g),H.frz,fun b C g l _ _ m=>absurd m (nomut g),fun g l cs e1 e2=>?_⟩
  rotate_left 2
  ·rcases hb g _ e2 with q|⟨cs',q,e3,_⟩
   ·cases q
   ·cases q
    exact H.rofz g l cs (hι g l e1).2 e3
  ·intro g hg
   obtain⟨l,e1,e2⟩:=H.glob g hg
   exact⟨l,ar.2 ⟨hg,e1⟩,e2⟩
  ·intro g l o e1 e2
   rcases hb g o e2 with rfl|⟨cs,rfl,e3,hp⟩
   ·trivial
   ·obtain⟨C,ty,fr,k1,k2,k3,k4,k5⟩:=H.obj g l _ (hι g l e1).2 e3
    refine⟨C,ty,fr,k1,k2,k3,k4,fun i x hx=>?_⟩
    obtain⟨x',q1,q2⟩:=k5 i x hx
    have px:plain x=true:=by
     have:=List.all_eq_true.1 hp x (List.mem_of_getElem? hx)
     exact this
    rw[q2.bH px] at q1
    exact⟨x,q1,VRel.aH px⟩
 rcases c.2 _ w vs' H0 (aX.nr hvs) with⟨ok,hc⟩|⟨v',e1,e2,_⟩
 ·refine .inl ⟨ok,hc.mono fun e w' q=>?_⟩
  obtain⟨ι',v',rfl,r',_,S⟩:=q
  rw[r'.mb hv]
  have hf:∀ b,b<w.heap.size->w'.heap[b]?=w.heap[b]?:=fun b hb=>S.frame b hb fun g l _ m=>absurd m (nomut g)
  exact⟨ι,v,rfl,VRel.iq hv,H.grow S.wsize hf,Step.grow H.dom S.wsize hf S.out⟩
 ·rw[e2.mb hv] at e1
  exact .inr ⟨v,e1,VRel.iq hv,rfl⟩
def dI (l:List AObj):Heap:=⟨l.length,slotsO 0 l,l.length⟩
where slotsO:Nat->List AObj->Tr AObj
 |_,[]=>.nil
 |i,o::r=>(slotsO (i+1) r).set i o
theorem pt:∀ (l:List AObj) (i g:Nat),(dI.slotsO i l).get g=if i<=g then l[g-i]? else none
 |[],i,g=>by simp[dI.slotsO,Tr.get]
 |o::r,i,g=>by
  simp only[dI.slotsO,Tr.cS]
  by_cases e:g=i
  ·subst e;simp
  ·rw[if_neg e,pt r (i+1) g]
   by_cases c:i+1<=g
   ·have:i<=g:=by omega
    rw[if_pos c,if_pos this]
    have:g-i=(g-(i+1))+1:=by omega
    rw[this,List.getElem?_cons_succ]
   ·have:¬ i<=g:=by omega
    rw[if_neg c,if_neg this]
theorem dn (l:List AObj) (g:Nat):(dI l).get g=l[g]?:=by
 unfold Heap.get dI
 simp only[pt]
 by_cases c:g<l.length
 ·simp[c]
 ·simp[c]
end Go.Abs
