/- Parts of the proof. -/
import Derived.Test.YtglgdkineobbeaaGreatDoorTn42
open Array renaming replicate->Nh
open Go.Region renaming ready->MQ
open List renaming range->Ma
namespace Go.Abs
section
variable {P:Program} {N:Nat}
def IJ(ops:Array Oper):Bool :=
 ops.toList.all (λo=>o.guard.isNone)&&mf ops&&(Ma ops.size).all λi=>match ops[i]? with
  |none=>false
  |some o=>o.dst.isSome&&(Ma ops.size).all λk=>match ops[k]? with
   |none=>false
   |some y=>(i==k || !(o.dst==y.dst))&&(!(o.op.operands.toList.any λx=>match x with | .tmp t=>y.dst==some t|_=>false)||((mr ops).getD i 0).testBit k)
structure SsaOk (ops:Array Oper):Prop where
 guard:∀o∈ops.toList,o.guard.isNone=true
 edges:mf ops=true
 dst:∀(i:Nat) (o:Oper),ops[i]?=some o->∃d,o.dst=some d
 uniq:∀(i k:Nat) (t:Tmp),eS ops t i->eS ops t k->i=k
 use:∀(i:Nat) (o:Oper) (t:Tmp) (k:Nat),ops[i]?=some o->Operand.tmp t∈o.op.operands->eS ops t k->Before ops k i
theorem I4{ops:Array Oper}(h:IJ ops=true):SsaOk ops:=by
 simp only[IJ,L9] at h;obtain⟨⟨h1,h2⟩,h3⟩:=h
 have get:∀i k o y,ops[i]?=some o->ops[k]?=some y->o.dst.isSome=true/\(i==k || !(o.dst==y.dst))=true/\(!(o.op.operands.toList.any λx=>match x with | .tmp t=>y.dst==some t|_=>false)||((mr ops).getD i 0).testBit k)=true:=by
  intro i k o y ho hy;have q:=Md.1 h3 i (Mx.2 (L3.1 ho).1);rw[ho] at q;simp only[L9] at q;have q2:=Md.1 q.2 k (Mx.2 (L3.1 hy).1);rw[hy] at q2;simp only[L9] at q2;exact⟨q.1,q2.1,q2.2⟩
 refine⟨Md.1 h1,h2,λi o ho=>QV.1 (get i i o o ho ho).1,?_,?_⟩
 .rintro i k t ⟨o,ho,hd⟩ ⟨y,hy,hd'⟩;have:=(get i k o y ho hy).2.1;rw[hd,hd'] at this;simpa using this
 .rintro i o t k ho hm ⟨y,hy,hd⟩;have:=(get i k o y ho hy).2.2;refine dU ?_
  rcases PC.1 this with q|q
  .exfalso
   have:(o.op.operands.toList.any λx=>match x with | .tmp t=>y.dst==some t|_=>false)=true:=by
    exact O9.2 ⟨_,Nl.2 hm,by simp[hd]⟩
   rw[this] at q;cases q
  .exact q
def OpV(P:Program)(e:Env)(o:Oper)(h:Heap):Prop:=∃d,o.dst=some d/\(aC P e.eval o=some (e.get d)\/bp P e.eval o h=some (e.get d))
structure SsaSt (N:Nat) (ops:Array Oper) (e eX:Env) (hX:Heap) (ι:Inj) (L:Array Bool) (a:Act) (w:World):Prop where
 lsize:L.size=ops.size
 closed:∀j o,aG L j->ops[j]?=some o->∀ed∈o.after,Region.binds .any ed=true->aG L ed.on
 defers:a.defers=[]
 tsize:a.tmps.size=e.n
 val:∀t,t<e.n->(∃j,aG L j/\eS ops t j)->VRel ι (eX.get t) (a.tmps.getD t undef)
 old:∀t,t<e.n->(∀j,aG L j->¬ eS ops t j)->VRel ι (e.get t) (a.tmps.getD t undef)
 rel:HRel N ι hX w
variable {ops:Array Oper} {e eX:Env} {hX:Heap} {ι:Inj} {L:Array Bool} {a:Act} {w:World}
theorem SsaSt.opd(S:SsaSt N ops e eX hX ι L a w)(ok:SsaOk ops)(hout:∀t,(∀j,¬ eS ops t j)->eX.get t=e.get t){i:Nat}{o:Oper}(ho:ops[i]?=some o)(hr:i∈MQ .any ops L)(hok:ig N e.n o=true):∀x∈o.op.operands,VRel ι (eX.eval x) (a.eval x):=by
 intro x hx;simp only[ig,L9] at hok;have hox:=(MJ.1 hok.1) x hx
 cases x with
 |tmp t =>
  have ht:t<e.n:=by simpa[lY] using hox
  by_cases c:∃k,eS ops t k
  .obtain⟨k,hk⟩:=c;exact S.val t ht ⟨k,hT S.closed (ok.use i o t k ho hx hk) hr,hk⟩
  .have c':∀j,¬ eS ops t j:=λj hj=>c ⟨j,hj⟩;have:=S.old t ht λj _=>c' j;rw[<- hout t c'] at this;exact this
 |const v=>exact VRel.aU hox
 |global g =>
  obtain⟨l,h1,h2,h3⟩:=S.rel.glob g (by simpa[lY] using hox);have:=VRel.ptr (ι:=ι) g 0 l h1;rw[h2,h3] at this;exact this
 |func f=>exact .func _ _ _ _ _ rfl rfl (λi=>by simpa using VRel.nothing ι) (λi=>by simpa using VRel.nothing ι)
theorem SsaSt.next(S:SsaSt N ops e eX hX ι L a w)(_ok:SsaOk ops){i:Nat}{o:Oper}(ho:ops[i]?=some o)(hr:i∈MQ .any ops L){d:Tmp}(hd:o.dst=some d)(hdn:d<e.n){eY:Env}{hY:Heap}{ι':Inj}{w':World}{v':Value}(hv:VRel ι' (eY.get d) v')(hx:∀t,t≠d->eY.get t=eX.get t)(hle:Inj.Le ι ι')(H:HRel N ι' hY w') :
  SsaSt N ops e eY hY ι' (L.setIfInBounds i true) (a.put o.dst v') w':=by
 obtain⟨hnl,hil⟩:=dB hr;have hw:eS ops d i:=⟨o,ho,hd⟩;obtain⟨_,o',ho',hedge⟩:=mem_ready.1 hr;rw[ho] at ho';cases ho'
 have hget:∀t,(a.put o.dst v').tmps.getD t undef=if t=d then v' else a.tmps.getD t undef:=by
  intro t;rw[hd]
  show (a.tmps.setIfInBounds d v').getD t undef=_
  rw[LW,NP];by_cases c:t=d
  .subst c;simp[S.tsize,hdn]
  .rw[if_neg (NU c),if_neg c,<- LW]
 refine⟨by simp[S.lsize],λj y hj hy ed hm hb=>?_,?_,?_,λt ht ⟨j,hj,hwj⟩=>?_,λt ht hno=>?_,H⟩
 .rw[aV hil] at hj ⊢
  rcases hj with rfl|hj
  .rw[ho] at hy;cases hy;exact .inr (hedge ed hm hb)
  .exact .inr (S.closed j y hj hy ed hm hb)
 .rw[hd];exact S.defers
 .rw[hd]
  show (a.tmps.setIfInBounds d v').size=_
  simp[S.tsize]
 .rw[hget];by_cases c:t=d
  .subst c;rw[if_pos rfl];exact hv
  .rw[if_neg c,hx t c]
   rcases (aV hil j).1 hj with rfl|hj
   .exfalso;obtain⟨y,hy,hyd⟩:=hwj;rw[ho] at hy;cases hy;rw[hd] at hyd;cases hyd;exact c rfl
   .exact (S.val t ht ⟨j,hj,hwj⟩).mono hle
 .have c:t≠d:=by rintro rfl;exact hno i ((aV hil i).2 (.inl rfl)) hw
  rw[hget,if_neg c];exact (S.old t ht λj hj=>hno j ((aV hil j).2 (.inr hj))).mono hle
theorem SsaSt.step(S:SsaSt N ops e eX hX ι L a w)(ok:SsaOk ops)(hokO:jI N e.n ops=true)(hout:∀t,(∀j,¬ eS ops t j)->eX.get t=e.get t){i:Nat}{o:Oper}(ho:ops[i]?=some o)(hr:i∈MQ .any ops L)(hv:OpV P eX o hX){Q:Exit->Act->World->Prop}{K:Act->World->Prop}
  (hK:∀a',SsaSt N ops e eX hX ι (L.setIfInBounds i true) a' w->K a' w):iG P ops Q i K a w:=by
 have hm:o∈ops.toList:=Nl.2 (M5 ho);have hoko:ig N e.n o=true:=(Md.1 hokO) o hm;have hρ:=S.opd ok hout ho hr hoko;obtain⟨d,hd,hv⟩:=hv;unfold iG;simp only[ho];rw[if_pos (fQ (ok.guard o hm) _)];unfold Oper.wp
 rcases hv with hv|hv
 .obtain⟨v',q1,q2⟩:=pd hρ hv;rw[q1 w];exact hK _ (S.next ok ho hr hd (jU hoko d hd) q2 (λ_ _=>rfl) (Inj.Le.refl ι) S.rel)
 .obtain⟨v',q1,q2⟩:=lU S.rel hρ hv;rw[q1];exact hK _ (S.next ok ho hr hd (jU hoko d hd) q2 (λ_ _=>rfl) (Inj.Le.refl ι) S.rel)
theorem Fb{c:Nat}{oc:Oper}(ok:SsaOk ops)(hc:ops[c]?=some oc)(hokO:jI N e.n ops=true){eF:Env}(hn:eF.n=e.n){h:Heap}{f:FuncId}{vs:Array Value}{R:Value->Heap->Prop}(h1:fq eF.eval oc.op=some (f,vs))(h2:CallM P N f vs h R)
  (hout:∀t,(∀j,¬ eS ops t j)->eF.get t=e.get t) (hpre:∀i o,ops[i]?=some o->i≠c->OpV P eF o h) (hpost:∀v h2,R v h2->∀i o,ops[i]?=some o->i≠c->OpV P (eF.put oc.dst v) o h2)
  {ι0:Inj} {w0:World} (H0:HRel N ι0 h w0) {Q:Exit->Act->World->Prop} (hQ:∀v h2 ι' a w,R v h2->h.size<=h2.size->ERel ι' (eF.put oc.dst v) a->HRel N ι' h2 w->Step N ι0 h w0 ι' h2 w->Q .normal a w) :
  ∀(fuel:Nat) (L:Array Bool) (a:Act) (w:World),nG L<=fuel->((¬ aG L c/\w=w0/\SsaSt N ops e eF h ι0 L a w)\/(aG L c/\∃v h2 ι',R v h2/\h.size<=h2.size/\Step N ι0 h w0 ι' h2 w/\SsaSt N ops e (eF.put oc.dst v) h2 ι' L a w))->Cn P ops Q fuel L a w:=by
 have hcl:c<ops.size:=(L3.1 hc).1;have hmc:oc∈ops.toList:=Nl.2 (M5 hc);have hokc:ig N e.n oc=true:=(Md.1 hokO) oc hmc;obtain⟨dc,hdc⟩:=ok.dst c oc hc;have hwc:eS ops dc c:=⟨oc,hc,hdc⟩
 have putne:∀v t,t≠dc->(eF.put oc.dst v).get t=eF.get t:=λv t ht=>by
  rw[hdc]
  show (eF.set dc v).get t=_
  rw[Env.dq,if_neg ht]
 have puteq:∀v,(eF.put oc.dst v).get dc=v:=λv=>by
  rw[hdc]
  show (eF.set dc v).get dc=_
  rw[Env.dq,if_pos rfl]
 have hout2:∀v t,(∀j,¬ eS ops t j)->(eF.put oc.dst v).get t=e.get t:=λv t ht=>by
  rw[putne v t (λq=>ht c (q ▸ hwc)),hout t ht]
 have fin:∀(L:Array Bool) (a:Act) (w:World),L.size=ops.size->(∀j,j<ops.size->aG L j)->((¬ aG L c/\w=w0/\SsaSt N ops e eF h ι0 L a w)\/(aG L c/\∃v h2 ι',R v h2/\h.size<=h2.size/\Step N ι0 h w0 ι' h2 w/\SsaSt N ops e (eF.put oc.dst v) h2 ι' L a w))->Q .normal a w:=by
  intro L a w hs hall hI
  rcases hI with⟨hn,_⟩|⟨_,v,h2,ι',hR,hsz,St,S⟩
  .exact absurd (hall c hcl) hn
  .refine hQ v h2 ι' a w hR hsz ⟨S.defers,by rw[S.tsize,Env.er,hn],λt ht=>?_⟩ S.rel St;rw[Env.er,hn] at ht;by_cases q:∃k,eS ops t k
   .obtain⟨k,hk⟩:=q;obtain⟨y,hy,_⟩:=id hk;exact S.val t ht ⟨k,hall k (L3.1 hy).1,hk⟩
   .have q':∀j,¬ eS ops t j:=λj hj=>q ⟨j,hj⟩;rw[hout2 v t q'];exact S.old t ht λj _=>q' j
 have hsz:∀(L:Array Bool) (a:Act) (w:World),((¬ aG L c/\w=w0/\SsaSt N ops e eF h ι0 L a w)\/(aG L c/\∃v h2 ι',R v h2/\h.size<=h2.size/\Step N ι0 h w0 ι' h2 w/\SsaSt N ops e (eF.put oc.dst v) h2 ι' L a w))->L.size=ops.size:=by
  intro L a w hI
  rcases hI with⟨_,_,S⟩|⟨_,_,_,_,_,_,_,S⟩ <;> exact S.lsize
 intro fuel
 induction fuel with
 |zero =>
  intro L a w hf hI;have hs:=hsz L a w hI
  have hall:∀j,j<ops.size->aG L j:=by
   intro j hj
   cases hl:L.getD j false with
   |true=>exact hl
   |false =>
    have:=nC (L:=L) (i:=j) (by rw[hs];exact hj) (by unfold aG;rw[hl];simp);omega
  refine⟨?_,fin L a w hs hall hI⟩
  cases hr:MQ .any ops L with
  |nil=>rfl
  |cons i r =>
   have hmem:i∈MQ .any ops L:=by rw[hr];simp
   obtain⟨hnl,hil⟩:=dB hmem;exact absurd (hall i (by rw[<- hs];exact hil)) hnl
 |succ fuel ih =>
  intro L a w hf hI;have hs:=hsz L a w hI;refine⟨λhr=>fin L a w hs (pH ok.edges hs hr) hI,λi hr=>?_⟩;obtain⟨hnl,hil⟩:=dB hr
  have hcome:nG (L.setIfInBounds i true)<=fuel:=by
   have:=nC hil hnl;omega
  obtain⟨_,o,ho,_⟩:=mem_ready.1 hr
  rcases hI with⟨hn1,rfl,S⟩|⟨hl1,v,h3,ι',hR,hsz2,St,S⟩
  .by_cases ci:i=c
   .subst ci;rw[hc] at ho;cases ho;have hρ:=S.opd ok hout hc hr hokc;unfold iG;simp only[hc];rw[if_pos (fQ (ok.guard oc hmc) _)];refine sy S.rel hρ h1 h2 λι' v' v h3 w' k0 k1 k2 k3 k4=>ih _ _ _ hcome (.inr ⟨(aV hil i).2 (.inl rfl),v,h3,ι',k0,k1,k4,?_⟩);exact S.next ok hc hr hdc (jU hokc dc hdc) (by rw[puteq];exact k2) (λt ht=>putne v t ht) k4.ext k3
   .exact S.step ok hokO hout ho hr (hpre i o ho ci) λa' S'=>ih _ _ _ hcome (.inl ⟨λq=>by
     rcases (aV hil c).1 q with q|q
     .exact ci q.symm
     .exact hn1 q,rfl,S'⟩)
  .have ci:i≠c:=by rintro rfl;exact hnl hl1
   exact S.step ok hokO (hout2 v) ho hr (hpost v h3 hR i o ho ci) λa' S'=>ih _ _ _ hcome (.inr ⟨(aV hil c).2 (.inr hl1),v,h3,ι',hR,hsz2,St,S'⟩)
theorem Ek{e eX:Env}{h:Heap}{ι:Inj}{a:Act}{w:World}(H:HRel N ι h w)(r:ERel ι e a):SsaSt N ops e eX h ι (Nh ops.size false) a w:=by
 have hn:∀j,¬ aG (Nh ops.size false) j:=by
  intro j;unfold aG;rw[LW,NR]
  split <;> simp
 exact⟨by simp,λj o hj=>absurd hj (hn j),r.defers,r.size,λt ht ⟨j,hj,_⟩=>absurd hj (hn j),λt ht _=>r.get t ht,H⟩
theorem CodeM.Hq(c:Nat){id:Nat}{l:List Oper}{o oc:Oper}{e eF:Env}{h:Heap}{K:X->Env->Heap->Prop}{f:FuncId}{vs:List Value}{R:Value->Heap->Prop}(hl:CY l o=true)(hs:IJ ⟨l⟩=true)(hc:l[c]?=some oc)(hn:eF.n=e.n)(h1:ko eF.eval oc.op=some (f,vs))(h2:CallM P N f ⟨vs⟩ h R)
  (hout:∀t,(∀j,¬ eS ⟨l⟩ t j)->eF.get t=e.get t) (hpre:∀i o,l[i]?=some o->i≠c->OpV P eF o h) (hpost:∀v h2,R v h2->∀i o,l[i]?=some o->i≠c->OpV P (eF.put oc.dst v) o h2)
  (hk:∀v h2,R v h2->RegKS P N ⟨[o]⟩ h2 [o] 0 (eF.put oc.dst v) h2 (K .normal)):CodeM P N (.region id ⟨l++[o]⟩ true) e h K:=⟨λhM hok ι w a H0 r=>by
 simp only[CY,L9] at hl;simp only[codeOk,L9] at hok;have hoko:=(Md.1 hok.1) o (by simp);have hokl:jI N e.n ⟨l⟩=true:=Md.2 λx m=>(Md.1 hok.1) x (MA _ m);refine wp_region_any hM (zY ?_);have H0':HRel N ι h { w with drawn:=w.drawn+1 }:=H0.same rfl;have S0:Step N ι h w ι h { w with drawn:=w.drawn+1 }:=Step.same H0 rfl ⟨rfl,rfl,rfl,λ_=>NB _⟩
 have hsr:Nh (⟨l++[o]⟩:Array Oper).size false=(Nh l.length false).push false:=by
  apply Q0 <;> simp[QI]
 rw[hsr]
 have hsz:(⟨l++[o]⟩:Array Oper).size=l.length+1:=by simp
 rw[hsz];refine EK hl.1.1 hl.1.2 (λi hi=>dU (Md.1 hl.2 i (Mx.2 hi))) l.length _ a _ (by simp) (λj x hj=>?_) ?_
 .exfalso;unfold aG at hj;rw[LW,NR] at hj
  split at hj <;> simp at hj
 have ok:=I4 hs;refine Fb (ops:=⟨l⟩) (c:=c) ok (by simpa using hc) hokl hn (kl h1) h2 hout (λi o ho=>hpre i o (by simpa using ho)) (λv h2 hR i o ho=>hpost v h2 hR i o (by simpa using ho)) H0' (λv h3 ι' a' w' hR hs3 q1 q2 q3=>?_) l.length _ a _ ?_ (.inl ⟨λhj=>?_,rfl,?_⟩)
 .obtain⟨e4,h4,hr,hq⟩:=(hk v h3 hR).spec
  show iG P ⟨l++[o]⟩ _ l.length _ a' w'
  unfold iG
  have ho:(⟨l++[o]⟩:Array Oper)[l.length]?=some o:=by simp
  rw[ho];simp only;have hgo:o.guard.isNone=true:=Md.1 hl.1.1 o (by simp);rw[if_pos (fQ hgo _)];unfold jR at hr;rw[if_pos (fQ hgo _)] at hr;obtain⟨v4,h5,hd,rfl,rfl⟩:=hr
  have hen:(eF.put oc.dst v).n=e.n:=by rw[Env.er,hn]
  refine rG q2 (fT q2 q1 (by rw[hen];exact hoko)) hd.1 λι5 v5 w5 s1 s2 s3=>?_;exact⟨.normal,_,_,rfl,hq,by rw[Env.er,hen],Mf hs3 hd.1.size,ι5,(q1.mono s3.ext).put (jU (by rw[hen];exact hoko)) s1,s2,(S0.trans q3).trans s3⟩
 .unfold nG;refine Mf Pm ?_;simp
 .unfold aG at hj;rw[LW,NR] at hj
  split at hj <;> simp at hj
 .exact Ek (ops:=⟨l⟩) H0' r⟩
def nu(e:Env):List (Nat×Value)->Env
 |[]=>e
 |p::r=>nu (e.set p.1 p.2) r
theorem BI:∀(vs:List (Nat×Value)) (e:Env),(nu e vs).n=e.n
 |[],_=>rfl
 |p::r,e=>by
  show (nu (e.set p.1 p.2) r).n=_
  rw[BI r];rfl
theorem vX(t:Nat):∀(vs:List (Nat×Value)) (e:Env),(∀p∈vs,p.1≠t)->(nu e vs).get t=e.get t
 |[],_,_=>rfl
 |p::r,e,h=>by
  show (nu (e.set p.1 p.2) r).get t=_
  rw[vX t r _ (λq m=>h q (.tail _ m)),Env.dq,if_neg (λq=>h p (.head _) q.symm)]
def Iz(P:Program)(e:Env)(h:Heap)(c:Nat):List Oper->Nat->Prop
 |[],_=>True
 |o::r,i=>(i=c\/OpV P e o h)/\Iz P e h c r (i+1)
theorem vp{e:Env}{h:Heap}{c:Nat}:∀{l:List Oper}{k:Nat},Iz P e h c l k->∀i o,l[i]?=some o->k+i≠c->OpV P e o h
 |[],_,_,i,o,ho,_=>by simp at ho
 |x::r,k,h,0,o,ho,hc=>by
  cases ho
  exact h.1.resolve_left hc
 |x::r,k,h,i+1,o,ho,hc=>vp h.2 i o (by simpa using ho) (by omega)
theorem CodeM.Et(c:Nat)(vs:List (Nat×Value)){id:Nat}{l:List Oper}{o oc:Oper}{e:Env}{h:Heap}{K:X->Env->Heap->Prop}{f:FuncId}{us:List Value}{R:Value->Heap->Prop}(ho:l.getLast?=some o)(hl:CY l.dropLast o=true)(hs:IJ ⟨l.dropLast⟩=true)(hc:l.dropLast[c]?=some oc)(hw:(vs.all λp=>l.dropLast.any λy=>y.dst==some p.1)=true)
  (h1:ko (nu e vs).eval oc.op=some (f,us)) (h2:CallM P N f ⟨us⟩ h R) (hpre:Iz P (nu e vs) h c l.dropLast 0) (hpost:∀v h2,R v h2->Iz P ((nu e vs).put oc.dst v) h2 c l.dropLast 0)
  (hk:∀v h2,R v h2->RegKS P N ⟨[o]⟩ h2 [o] 0 ((nu e vs).put oc.dst v) h2 (K .normal)):CodeM P N (.region id ⟨l⟩ true) e h K:=by
 have e1:l=l.dropLast++[o]:=by
  obtain⟨hne,h2⟩:=Pz.1 ho;rw[h2];simp
 rw[e1];refine CodeM.Hq c hl hs hc (BI vs e) h1 h2 (λt ht=>vX t vs e λp m q=>?_) (λi o ho hi=>vp hpre i o ho (by omega)) (λv h2 hR i o ho hi=>vp (hpost v h2 hR) i o ho (by omega)) hk;obtain⟨y,hy,hd⟩:=O9.1 (Md.1 hw p m);obtain⟨j,hj⟩:=M1 hy;exact ht j ⟨y,by simpa using hj,by rw[<- q];simpa using hd⟩
end
end Go.Abs
