/-
  AbsXm, AbsXn: parts of the proof.
-/
import Derived.Test.YtlbeebglhebpjaaGreatDoorTt41
namespace Go.Abs
open Go.ChangeMaps (setBlock)
section
variable {P:Program} {N:Nat}
def OutM (N:Nat) (ι:Inj) (n:Nat) (h:Heap) (w:World) (K:X->Env->Heap->Prop) (x:Exit) (a':Act) (w':World):Prop :=
 ∃ (y:X) (e1:Env) (h1:Heap),x=y.toExit/\K y e1 h1/\e1.n=n/\h.size<=h1.size/\∃ ι',ERel ι' e1 a'/\HRel N ι' h1 w'/\Step ι h w ι' h1 w'
theorem OutM.trans {ι ι':Inj}{n:Nat}{h h1:Heap}{w w':World}{K:X->Env->Heap->Prop}{x:Exit}{a:Act}{w2:World} (q:OutM N ι' n h1 w' K x a w2) (hs:h.size<=h1.size) (S:Step ι h w ι' h1 w'):OutM N ι n h w K x a w2:=by
 obtain⟨y,e2,h2,rfl,k,hn,hs2,ι2,r2,H2,S2⟩:=q
 exact⟨y,e2,h2,rfl,k,hn,Nat.le_trans hs hs2,ι2,r2,H2,S.trans S2⟩
structure CodeM (P:Program) (N:Nat) (c:Code) (e:Env) (h:Heap) (K:X->Env->Heap->Prop):Prop where
 spec:P.follows .mixedOrders=true->codeOk N e.n c=true->∀ ι w a,HRel N ι h w->ERel ι e a->c.wp P (OutM N ι e.n h w K) a w
theorem CodeM.ofS {c:Code}{e:Env}{h:Heap}{K:X->Env->Heap->Prop} (hk:CodeS P N c e h K):CodeM P N c e h K:=⟨fun hM hok ι w a H r=>by
 obtain⟨x,e1,h1,c1,k⟩:=hk.spec hM hok
 refine wp_mono (c1.2 ι w a H r) ?_
 rintro x' a' w' ⟨rfl,ι',r',H',S⟩
 exact⟨x,e1,h1,rfl,k,c1.1.2,c1.1.1,ι',r',H',S⟩⟩
theorem CodeM.seq {a b:Code}{e:Env}{h:Heap}{K:X->Env->Heap->Prop}
  (hk:CodeM P N a e h fun x e1 h1=>match x with
   |.normal=>CodeM P N b e1 h1 K
   |.exit id=>K (.exit id) e1 h1
   |.ret=>K .ret e1 h1):CodeM P N (.seq a b) e h K:=⟨fun hM hok ι w ac H r=>by
 simp only[codeOk,Bool.and_eq_true] at hok
 refine wp_seq (wp_mono (hk.spec hM hok.1 ι w ac H r) ?_)
 rintro x' a' w' ⟨y,e1,h1,rfl,k,hn,hs,ι',r',H',S⟩
 cases y with
 |normal =>
  refine wp_mono (k.spec hM (by rw[hn];exact hok.2) ι' w' a' H' r') ?_
  intro x2 a2 w2 q
  rw[hn] at q
  exact q.trans hs S
 |exit id=>exact⟨.exit id,e1,h1,rfl,k,hn,hs,ι',r',H',S⟩
 |ret=>exact⟨.ret,e1,h1,rfl,k,hn,hs,ι',r',H',S⟩⟩
theorem CodeM.block {id:Nat}{c:Code}{e:Env}{h:Heap}{K:X->Env->Heap->Prop}
  (hk:CodeM P N c e h fun x e1 h1=>match x with
   |.normal=>K .normal e1 h1
   |.exit id'=>match Nat.beq id' id with
    |true=>K .normal e1 h1
    |false=>K (.exit id') e1 h1
   |.ret=>K .ret e1 h1):CodeM P N (.block id c) e h K:=⟨fun hM hok ι w ac H r=>by
 simp only[codeOk] at hok
 refine wp_block (wp_mono (hk.spec hM hok ι w ac H r) ?_)
 rintro x' a' w' ⟨y,e1,h1,rfl,k,rest⟩
 cases y with
 |normal=>exact⟨.normal,e1,h1,rfl,k,rest⟩
 |ret=>exact⟨.ret,e1,h1,rfl,k,rest⟩
 |exit id' =>
  simp only at k
  show Exit.inBlock id _ (.exit id') a' w'
  cases he:Nat.beq id' id with
  |true =>
   have:id'=id:=Nat.eq_of_beq_eq_true he
   subst this
   rw[mu]
   rw[he] at k
   exact⟨.normal,e1,h1,rfl,k,rest⟩
  |false =>
   have:id'≠id:=Nat.ne_of_beq_eq_false he
   rw[mD this]
   rw[he] at k
   exact⟨.exit id',e1,h1,rfl,k,rest⟩⟩
theorem CodeM.cond {c:Operand}{a b:Code}{e:Env}{h:Heap}{K:X->Env->Heap->Prop} (hk:∃ t,e.eval c=.bool t/\(t=true->CodeM P N a e h K)/\(t=false->CodeM P N b e h K)):CodeM P N (.cond c a b) e h K:=⟨fun hM hok ι w ac H r=>by
 simp only[codeOk,Bool.and_eq_true] at hok
 obtain⟨t,hc,h1,h2⟩:=hk
 have q:=r.eval H hok.1.1
 rw[hc] at q
 have q':ac.eval c=.bool t:=q.bb rfl
 cases t
 ·exact wp_cond_false q' ((h2 rfl).spec hM hok.2 ι w ac H r)
 ·exact wp_cond_true q' ((h1 rfl).spec hM hok.1.2 ι w ac H r)⟩
theorem ERel.xU {ι:Inj}{e e':Env}{h:Heap}{w:World}{a:Act} (r:ERel ι e a) (H:HRel N ι h w) (hn:e'.n=e.n) (hv:∀ t,VLe h (e.get t) (e'.get t)):ERel ι e' a :=
 ⟨r.defers,by rw[hn];exact r.size,fun t ht=>hv t N ι w _ H (r.get t (by rw[<- hn];exact ht))⟩
theorem oQ {c:Code}{Q:Exit->Act->World->Prop}:∀ {n m:Nat}{a:Act}{w:World},n<=m->Code.rounds P c Q n a w->Code.rounds P c Q m a w
 |0,m,a,w,_,hr=>by cases hr
 |n+1,0,a,w,h,_=>by omega
 |n+1,m+1,a,w,h,hr=>by
  rw[rounds_succ] at hr ⊢
  refine wp_mono hr ?_
  intro x a' w' q
  cases x <;> first|exact q|exact oQ (by omega) q
theorem CodeM.loop {c:Code}{nn:Nat}{σ:Type} (I:σ->Heap->Prop) (env:σ->List (Nat×Value)) (μ:σ->Nat) {e:Env}{h:Heap}{K:X->Env->Heap->Prop} (hn:e.n=nn)
  (start:∃ s,I s h/\fh h (env s) e)
  (round:∀ s base h,I s h->dH (de (env s)) fun t=>CodeM P N c ⟨nn,t,base⟩ h fun x e1 h1=>match x with
   |.normal=>∃ s',μ s'<μ s/\I s' h1/\fh h1 (env s') e1
   |.exit id=>K (.exit id) e1 h1
   |.ret=>K .ret e1 h1):CodeM P N (.loop c) e h K:=⟨fun hM hok=>by
 simp only[codeOk] at hok
 rw[hn] at hok
 have key:∀ (m:Nat) (s:σ) (e:Env) (h:Heap),μ s=m->e.n=nn->I s h->fh h (env s) e->∀ ι w a,HRel N ι h w->ERel ι e a->Code.rounds P c (OutM N ι nn h w K) (m+1) a w:=by
  intro m
  induction m using Nat.strongRecOn with
  |_ m ih =>
   intro s e h hm he hI hh ι w a H r
   have c1:=((bH _ _).1 (round s e.get h hI))
   have r2:ERel ι (⟨nn,de (env s),e.get⟩:Env) a:=r.xU H he.symm (fun t=>by have:=jS hh t;rw[he] at this;exact this)
   rw[rounds_succ]
   refine wp_mono (c1.spec hM hok ι w a H r2) ?_
   rintro x' a' w' ⟨y,e1,h1,rfl,k,hn1,hs,ι',r',H',S⟩
   cases y with
   |normal =>
    obtain⟨s',hlt,hI',hh'⟩:=k
    have:=ih (μ s') (hm ▸ hlt) s' e1 h1 rfl hn1 hI' hh' ι' w' a' H' r'
    exact oQ (by omega) (lf (fun x a w q=>OutM.trans q hs S) _ _ _ this)
   |exit id=>exact⟨.exit id,e1,h1,rfl,k,hn1,hs,ι',r',H',S⟩
   |ret=>exact⟨.ret,e1,h1,rfl,k,hn1,hs,ι',r',H',S⟩
 obtain⟨s,hI,hh⟩:=start
 intro ι w a H r
 rw[hn]
 exact wp_loop_rounds _ (key (μ s) s e h rfl hn hI hh ι w a H r)⟩
theorem xP {ι:Inj}{n:Nat}{vs vs':Array Value} (r:ARel ι vs vs') (hs:vs.size<=n):ERel ι (bZ n vs) { tmps:=vs'++Array.replicate (n-vs'.size) undef,defers:=[] }:=by
 refine⟨rfl,?_,fun t _=>?_⟩
 ·rw[eP];simp;have:=r.1;omega
 ·rw[kf]
  have q:=r.2 t
  by_cases ht:t<vs'.size
  ·have:(vs'++Array.replicate (n-vs'.size) undef).getD t undef=vs'.getD t undef:=by
    rw[Array.getD_eq_getD_getElem?,Array.getD_eq_getD_getElem?,Array.getElem?_append_left ht]
   rw[this];exact q
  ·have e1:(vs'++Array.replicate (n-vs'.size) undef).getD t undef=undef:=by
    rw[Array.getD_eq_getD_getElem?,Array.getElem?_append_right (by omega),Array.getElem?_replicate]
    split <;> rfl
   have e2:vs.getD t undef=undef:=by
    rw[Array.getD_eq_getD_getElem?,Array.getElem?_eq_none (by have:=r.1;omega)];rfl
   rw[e1,e2];exact VRel.nothing ι
theorem oW {ι ι':Inj}{h h1:Heap}{w w':World}{v v' r:Value} (H:HRel N ι h w) (H':HRel N ι' h1 w') (S:Step ι h w ι' h1 w') (r':VRel ι' v v') (e:Ext h h1) (hr:PureV r) (hv:∀ h2,Frozen h.size h1 h2->VLe h2 v r) :
  ∃ ι'',VRel ι'' r v'/\HRel N ι'' h w'/\Step ι h w ι'' h w':=by
 obtain⟨ι2,h2,H2,F,fs⟩:=H'.oF h.size
 have hx:Ext h h2:=F.ext e.1 e (Nat.le_refl _)
 have rr:VRel ι2 r v':=hv h2 F N ι2 w' v' H2 (r'.mono fs.le)
 have core:=nW H H2 (S.ext.trans fs.le) S.wsize S.frame S.out (fun b C q1 q2=>?_) hx
 ·exact⟨ι.with ι2,hr ι2 _ v' (fun _ _ q=>q) rr,core⟩
 ·cases q3:ι'.fz b with
  |some C'=>exact S.fzown b C' q3 q2
  |none =>
   obtain⟨g0,l0,h1,h2⟩:=fs.own b C q1 q3
   cases q4:ι g0 with
   |some l1 =>
    have:=S.ext.at_ g0 l1 q4
    rw[h1] at this;cases this
    exact .inr ⟨g0,l0,q4,h2⟩
   |none =>
    rcases S.own g0 l0 h1 q4 with k1|⟨g1,l1,k1,_,k2⟩
    ·exact .inl (h2 ▸ k1)
    ·exact .inr ⟨g1,l1,k1,k2.trans h2⟩
theorem fnM (hM:P.follows .mixedOrders=true) {f:FuncId}{fn:Func}{c:Code} (hf:P.funcs[f]?=some fn) (hb:fn.body=some c) (ho:fY N fn=true) {vs:Array Value} (hs:vs.size<=fn.ntmps) {h:Heap}{B:List AObj} (hB:HasB B h) {r:Value} (hr:PureV r)
  (hk:Own B h [] h->CodeM P N c (bZ fn.ntmps vs) h fun x e1 h1=>match x with
   |.exit _=>False
   |_=>mj P e1 h1 fn.results.toList fun vs=>Ext h h1/\∀ h2,Frozen h.size h1 h2->VLe h2 (qM vs) r):CallD P N f vs h r h:=by
 obtain⟨ok1,ok2⟩:=jH hf hb ho
 refine⟨Nat.le_refl _,fun ι w vs' H ra=>.inl ⟨ok1,calls_of_wp hf hb ?_⟩⟩
 have hr0:ERel ι (bZ fn.ntmps vs) { tmps:=vs'++Array.replicate (fn.ntmps-vs'.size) undef,defers:=[] }:=xP ra hs
 refine wp_mono ((hk (Own.start hB)).spec hM (by rw[eP];exact ok2) ι w _ H hr0) ?_
 rintro x a' w' ⟨y,e1,h1,rfl,k,hn,hsz,ι',r',H',S⟩
 cases y with
 |exit id=>exact k.elim
 |normal =>
  obtain⟨v,hv,hx,hq⟩:=eN (K:=fun v=>Ext h h1/\∀ h2,Frozen h.size h1 h2->VLe h2 v r) k
  obtain⟨v',p1,p2⟩:=cP H' r' hv
  obtain⟨ι'',c1,c2,c3⟩:=oW H H' S p2 hx hr hq
  exact⟨r'.defers,v',p1,ι'',v',rfl,c1,c2,c3⟩
 |ret =>
  obtain⟨v,hv,hx,hq⟩:=eN (K:=fun v=>Ext h h1/\∀ h2,Frozen h.size h1 h2->VLe h2 v r) k
  obtain⟨v',p1,p2⟩:=cP H' r' hv
  obtain⟨ι'',c1,c2,c3⟩:=oW H H' S p2 hx hr hq
  exact⟨r'.defers,v',p1,ι'',v',rfl,c1,c2,c3⟩
end
end Go.Abs

namespace Go.Abs
section
variable {P:Program} {N:Nat}
def yI (P:Program) (N:Nat) (c:Code) (e:Env) (h:Heap) (K:X->Env->Heap->Prop):Prop :=
 match c with
 |.skip=>K .normal e h
 |.label _=>K .normal e h
 |.exit id=>K (.exit id) e h
 |.ret=>K .ret e h
 |.region _ ops d=>match ops,d with
  |⟨l⟩,false=>RegS P N ⟨l⟩ l 0 e h (K .normal)
  |⟨l⟩,true=>RegXS P N ⟨l⟩ h l 0 e h (K .normal)
 |.seq a b=>CodeM P N a e h fun x e h=>match x with
  |.normal=>CodeM P N b e h K
  |.exit id=>K (.exit id) e h
  |.ret=>K .ret e h
 |.cond c a b=>∃ t,e.eval c=.bool t/\(t=true->CodeM P N a e h K)/\(t=false->CodeM P N b e h K)
 |.block id c=>CodeM P N c e h fun x e h=>match x with
  |.normal=>K .normal e h
  |.exit id'=>match Nat.beq id' id with
   |true=>K .normal e h
   |false=>K (.exit id') e h
  |.ret=>K .ret e h
 |_=>False
def BY:Code->Bool
 |.loop _=>false
 |_=>true
theorem Ms {c:Code}{e:Env}{h:Heap}{K:X->Env->Heap->Prop} (_nl:BY c=true) (hk:yI P N c e h K):CodeM P N c e h K:=by
 cases c with
 |skip=>exact CodeM.ofS (CodeS.step hk)
 |label l=>exact CodeM.ofS (CodeS.step hk)
 |exit id=>exact CodeM.ofS (CodeS.step hk)
 |ret=>exact CodeM.ofS (CodeS.step hk)
 |region id ops d=>exact CodeM.ofS (CodeS.step hk)
 |seq a b=>exact CodeM.seq hk
 |cond c a b=>exact CodeM.cond hk
 |block id c=>exact CodeM.block hk
 |loop c=>exact hk.elim
 |scope c=>exact hk.elim
 |goto l=>exact hk.elim
 |rangeFunc f ps a b=>exact hk.elim
 |refuse w=>exact hk.elim
theorem gXM {A B:Prop} (a:A) (h:A->B:=by intro h;(conv=>whnf);(repeat((first | (refine Ms (by exact rfl) ?_) | apply Cs|apply Hs|apply Hx|apply Hf|apply Hk | (refine rd ?_) | (refine⟨.inl rfl,?_⟩) | (refine⟨.inr rfl,?_⟩) | (refine lm ?_) | (refine ll ?_) | (refine lg ?_) | (refine ls ?_) | (refine ldO (O.at (.head _)) ?_) | (refine ldO (O.at (.tail _ (.head _))) ?_) | (refine ldO (O.at (.tail _ (.tail _ (.head _)))) ?_) | (refine⟨rfl,?_⟩) | (refine oc rfl rfl ?_));(conv=>whnf)));exact h):B:=h a
end
section
variable {P:Program} {N:Nat} {B:List AObj} {h0 h:Heap} {L:List Slot} {ρ:Operand->Value} {d:Option Tmp} {ty:TypeId} {pos:String} {af:Array Edge} {gd:Option (Nat×Bool)}
variable {κ ν:Type} {ek:κ->Value} {ev:ν->Value}
theorem Ea {α:Type}{enc:α->Value}{z:α}{h:Heap} (n:Nat) (h1:cl (enc z)=[enc z]) (le:VLe h (.slice none 0 0) (enc z)):LLe h (flatC ((List.replicate n ()).map fun _=>Value.slice none 0 0)) (flatC ((List.replicate n z).map enc)):=by
 have e1:∀ v:Value,cl v=[v]->flatC (List.replicate n v)=List.replicate n v:=fun v hv=>by
  induction n with
  |zero=>rfl
  |succ n ih=>rw[List.replicate_succ,show flatC (v::List.replicate n v)=cl v++flatC (List.replicate n v) from rfl,hv,ih];rfl
 rw[List.map_replicate,List.map_replicate,e1 _ rfl,e1 _ h1]
 refine⟨by simp,fun i=>?_⟩
 simp only[List.getD,List.getElem?_replicate]
 split
 ·exact le
 ·exact VLe.refl _ _
theorem Ek {α:Type} (h:Heap) (n s:Nat) (enc:α->Value):LLe h (flatC ((List.replicate n ()).map fun _=>Value.slice none 0 0)) (flatC ((List.replicate n ([]:List α)).map (ah s enc))):=Ea n rfl (VLe.nil _ _)
end
end Go.Abs
