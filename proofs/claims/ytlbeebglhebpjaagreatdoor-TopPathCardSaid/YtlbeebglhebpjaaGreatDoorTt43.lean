/-
  AbsXe, AbsXj: parts of the proof.
-/
import Derived.Test.YtlbeebglhebpjaaGreatDoorTt42
namespace Go.Abs
section
variable {P:Program} {N:Nat}
structure CallM (P:Program) (N:Nat) (f:FuncId) (vs:Array Value) (h:Heap) (Q:Value->Heap->Prop):Prop where
 ok:fnOk P f=true
 spec:∀ ι w vs',HRel N ι h w->ARel ι vs vs'->Calls P f vs' w fun en w'=>∃ ι' v' v h',en=.returned v'/\Q v h'/\h.size<=h'.size/\VRel ι' v v'/\HRel N ι' h' w'/\Step ι h w ι' h' w'
theorem yW {o:Oper}{e:Env}{a:Act}{ι:Inj}{h:Heap}{w:World} (H:HRel N ι h w) (hρ:∀ x∈o.op.operands,VRel ι (e.eval x) (a.eval x)) {f:FuncId}{vs:Array Value}{R:Value->Heap->Prop} (h1:dn e.eval o.op=some (f,vs)) (h2:CallM P N f vs h R) {K:Act->World->Prop}{Q:Exit->Act->World->Prop}
  (k:∀ ι' v' v h' w',R v h'->h.size<=h'.size->VRel ι' v v'->HRel N ι' h' w'->Step ι h w ι' h' w'->K (a.put o.dst v') w'):o.wp P a w K Q:=by
 unfold Oper.wp
 obtain⟨dst,op,type,pos,after,guard⟩:=o
 cases op <;> try (simp[dn] at h1;done)
 rename_i c
 obtain⟨callee,args,argTypes⟩:=c
 cases callee <;> try (simp[dn] at h1;done)
 rename_i fv
 simp only[dn] at h1
 have hfv:=hρ fv (by simp[Op.operands,Call.operands])
 generalize ef:e.eval fv=y0 at hfv h1
 generalize ef':a.eval fv=y1 at hfv
 cases hfv <;> try (simp at h1;done)
 rename_i fn first cap first' cap' s1 s2 g1 g2
 cases fn <;> try (simp at h1;done)
 rename_i f0
 simp only[Option.some.injEq,Prod.mk.injEq] at h1
 obtain⟨rfl,rfl⟩:=h1
 have hargs:ARel ι (first++args.map e.eval++cap) (first'++args.map a.eval++cap'):=by
  rw[ARel.da]
  simp only[Array.toList_append]
  exact ((ARel.list ⟨s1,g1⟩).append (ARel.map args (fun x hx=>hρ x (by simp[Op.operands,Call.operands,hx]))).list).append (ARel.list ⟨s2,g2⟩)
 have hexec:(execOp a.eval ⟨dst,.call ⟨.value fv,args,argTypes⟩,type,pos,after,guard⟩).run P w=(callFunc f0 (first'++args.map a.eval++cap')).run P w:=by
  simp only[execOp,resolve,Sem.run_bind,Deferred.ofValue,ef',Sem.run_pure,Result.andThen_ok,invoke]
 rw[hexec,fy h2.ok]
 refine Calls.mono (h2.spec ι w _ H hargs) ?_
 rintro en w' ⟨ι',v',v,h',rfl,q0,q1,q2,q3,q4⟩
 exact k ι' v' v h' w' q0 q1 q2 q3 q4
def vR (P:Program) (N:Nat) (o:Oper) (K:X->Env->Heap->Prop) (e1:Env) (h1:Heap):Prop :=
 ∃ f vs R,dn e1.eval o.op=some (f,vs)/\CallM P N f vs h1 R/\∀ v h2,R v h2->K .normal (e1.put o.dst v) h2
theorem qw {o:Oper}{n:Nat}{K:X->Env->Heap->Prop}{ι0 ι:Inj}{h0 h:Heap}{w0 w:World}{e:Env}{a:Act}{Q:Exit->Act->World->Prop} (hok:il N e.n o=true) (hn:e.n=n) (H:HRel N ι h w) (r:ERel ι e a) (S:Step ι0 h0 w0 ι h w) (hq:vR P N o K e h) :
  o.wp P a w (fun a w=>OutM N ι0 n h0 w0 K .normal a w) Q:=by
 obtain⟨f,vs,R,q1,q2,q3⟩:=hq
 refine yW H (kF H r hok) q1 q2 fun ι' v' v h' w' k0 k1 k2 k3 k4=>?_
 exact⟨.normal,e.put o.dst v,h',rfl,q3 _ _ k0,by rw[Env.eQ];exact hn,Nat.le_trans S.size k1,ι',(r.mono k4.ext).put (nY hok) k2,k3,S.trans k4⟩
theorem kl {o:Oper} (hg:o.guard.isNone=true) (f:Nat->Option Bool):Region.wanted o f=true:=by
 unfold Region.wanted
 cases q:o.guard with
 |none=>rfl
 |some x=>rw[q] at hg;cases hg
theorem CodeM.BL {id:Nat}{l:List Oper}{o:Oper}{e:Env}{h:Heap}{K:X->Env->Heap->Prop} (hg:o.guard.isNone=true) (hk:RegS P N ⟨l++[o]⟩ l 0 e h (vR P N o K)):CodeM P N (.region id ⟨l++[o]⟩ false) e h K:=⟨fun hM hok ι w a H r=>by
 simp only[codeOk,Bool.and_eq_true] at hok
 obtain⟨e1,h1,hd,hq⟩:=hk.spec
 refine wp_region ?_
 show wpOps P _ _ (List.range (l++[o]).length) a w
 rw[List.length_append,List.length_singleton,List.range_eq_range',List.range'_1_concat]
 have hoko:=(List.all_eq_true.1 hok.1) o (by simp)
 refine jN (rest:=[0+l.length]) l 0 (fun j x hx=>?_) ι e a h w e1 h1 hok.1 ?_ H r fun ι' a' w' r1 r2 r3=>?_
 ·have hlt:=(List.getElem?_eq_some_iff.1 hx).1
  show (⟨l++[o]⟩:Array Oper)[0+j]?=some x
  rw[List.getElem?_toArray,Nat.zero_add,List.getElem?_append_left hlt]
  exact hx
 ·exact hd
 ·rw[wpOps_cons]
  unfold wpOp
  have ho:(⟨l++[o]⟩:Array Oper)[0+l.length]?=some o:=by simp
  simp only[ho]
  rw[if_pos (kl hg _)]
  exact .inl (qw (by rw[hd.n];exact hoko) hd.n r2 r1 r3 hq)⟩
theorem th {o:Oper}{a:Act}{w:World}{K K':Act->World->Prop}{Q Q':Exit->Act->World->Prop} (hK:∀ a w,K a w->K' a w) (hQ:∀ c a w,Q (.panic c) a w->Q' (.panic c) a w) (hO:LetsOut Q->LetsOut Q') (h:o.wp P a w K Q):o.wp P a w K' Q':=by
 unfold Oper.wp at *
 generalize (execOp a.eval o).run P w=r at *
 cases r with
 |ok x w' =>
  cases x <;> simp only[Oper.upon] at h ⊢ <;>
   first
    |exact hK _ _ h
    |exact Calls.mono h (fun e w'' he=>by cases e <;> first|exact hK _ _ he|exact hQ _ _ _ he|exact hO he)
    |exact fun c cs=>(h c cs).imp fun _ q=>q.imp fun _ q=>⟨hK _ _ q.1,q.2⟩
    |exact h
 |halt x w'=>cases x <;> simp only[Oper.upon] at h ⊢ <;> first|exact hQ _ _ _ h|exact h
theorem pe {ops:Array Oper}{Q:Exit->Act->World->Prop}{i:Nat}{K K':Act->World->Prop} (hK:∀ a w,K a w->K' a w) {a:Act}{w:World} (h:fb P ops Q i K a w):fb P ops Q i K' a w:=by
 unfold fb at *
 cases e:ops[i]? with
 |none=>rw[e] at h;exact hK _ _ h
 |some o =>
  rw[e] at h
  simp only at h ⊢
  split
  ·rename_i hw;rw[if_pos hw] at h;exact th hK (fun _ _ _ q=>q) id h
  ·rename_i hw;rw[if_neg hw] at h;exact hK _ _ h
def EP (Q:Exit->Act->World->Prop) (S:Act->World->Prop):Exit->Act->World->Prop:=fun x a w=>match x with
 |.normal=>S a w
 |y=>Q y a w
theorem zj {l:List Oper}{o:Oper}{Q:Exit->Act->World->Prop} (hgl:(l++[o]).all (fun x=>x.guard.isNone)=true) (he:lu ⟨l++[o]⟩=true) (hb:∀ i,i<l.length->Before ⟨l++[o]⟩ i l.length) :
  ∀ (fuel:Nat) (L:Array Bool) (a:Act) (w:World),L.size=l.length->(∀ j x,Listed L j->(⟨l⟩:Array Oper)[j]?=some x->∀ ed∈x.after,Region.binds .any ed=true->Listed L ed.on) ->
   wV P ⟨l⟩ (EP Q (fb P ⟨l++[o]⟩ Q l.length fun a w=>Q .normal a w)) fuel L a w->wV P ⟨l++[o]⟩ Q (fuel+1) (L.push false) a w:=by
 have getl:∀ (j:Nat) (x:Oper),(⟨l⟩:Array Oper)[j]?=some x->(⟨l++[o]⟩:Array Oper)[j]?=some x:=fun j x hx=>by
  have hx:l[j]?=some x:=by simpa using hx
  show (⟨l++[o]⟩:Array Oper)[j]?=some x
  simp only[List.getElem?_toArray]
  rw[List.getElem?_append_left (List.getElem?_eq_some_iff.1 hx).1]
  exact hx
 have pushL:∀ (L:Array Bool) (j:Nat),L.size=l.length->(Listed (L.push false) j↔Listed L j):=fun L j hs=>by
  unfold Listed
  rw[Array.getD_eq_getD_getElem?,Array.getD_eq_getD_getElem?,Array.getElem?_push]
  by_cases e:j=L.size
  ·rw[if_pos e,e];simp
  ·rw[if_neg e]
 have openL:∀ (L:Array Bool) (j:Nat),L.size=l.length->j≠l.length->(L.push false).getD j true=L.getD j true:=fun L j hs hj=>by
  rw[Array.getD_eq_getD_getElem?,Array.getD_eq_getD_getElem?,Array.getElem?_push,if_neg (by omega)]
 have cl:∀ L:Array Bool,L.size=l.length->(∀ j x,Listed L j->(⟨l⟩:Array Oper)[j]?=some x->∀ ed∈x.after,Region.binds .any ed=true->Listed L ed.on)->∀ j x,Listed (L.push false) j->(⟨l++[o]⟩:Array Oper)[j]?=some x->∀ ed∈x.after,Region.binds .any ed=true->Listed (L.push false) ed.on:=by
  intro L hs hc j x hj hx ed m b
  rw[pushL L _ hs] at hj ⊢
  have hlt:j<l.length:=by
   unfold Listed at hj
   rw[Array.getD_eq_getD_getElem?] at hj
   cases q:L[j]? with
   |none=>rw[q] at hj;simp at hj
   |some v=>have:=(Array.getElem?_eq_some_iff.1 q).1;omega
  refine hc j x hj ?_ ed m b
  simp only[List.getElem?_toArray] at hx ⊢
  rw[List.getElem?_append_left hlt] at hx
  exact hx
 have readyI:∀ (L:Array Bool) (i:Nat),L.size=l.length->i<l.length->i∈Region.ready .any ⟨l++[o]⟩ (L.push false)->i∈Region.ready .any ⟨l⟩ L:=by
  intro L i hs hi hr
  obtain⟨h1,x,h2,h3⟩:=mem_ready.1 hr
  refine mem_ready.2 ⟨by rw[<- openL L i hs (by omega)];exact h1,x,?_,fun ed m b=>(pushL L _ hs).1 (h3 ed m b)⟩
  simp only[List.getElem?_toArray] at h2 ⊢
  rw[List.getElem?_append_left hi] at h2
  exact h2
 have lastI:∀ (L:Array Bool),L.size=l.length->(∀ j x,Listed L j->(⟨l⟩:Array Oper)[j]?=some x->∀ ed∈x.after,Region.binds .any ed=true->Listed L ed.on)->l.length∈Region.ready .any ⟨l++[o]⟩ (L.push false)->∀ i,i<l.length->Listed L i:=by
  intro L hs hc hr i hi
  exact (pushL L _ hs).1 (eZ (cl L hs hc) (hb i hi) hr)
 have none_:∀ (L:Array Bool),(∀ i,i<l.length->Listed L i)->Region.ready .any ⟨l⟩ L=[]:=by
  intro L hall
  cases q:Region.ready .any ⟨l⟩ L with
  |nil=>rfl
  |cons i r =>
   exfalso
   have hm:i∈Region.ready .any ⟨l⟩ L:=by rw[q];simp
   obtain⟨h1,x,h2,_⟩:=mem_ready.1 hm
   have hi:i<l.length:=by simpa using (Array.getElem?_eq_some_iff.1 h2).1
   have:=hall i hi
   unfold Listed at this
   rw[Array.getD_eq_getD_getElem?] at h1 this
   cases q:L[i]? with
   |none=>rw[q] at this;cases this
   |some v =>
    rw[q] at h1 this
    simp only[Option.getD_some] at h1 this
    rw[h1] at this
    cases this
 have fin:∀ (L:Array Bool) (fuel:Nat) (a:Act) (w:World),L.size=l.length->(∀ i,i<l.length->Listed L i)->Q .normal a w->wV P ⟨l++[o]⟩ Q fuel ((L.push false).setIfInBounds l.length true) a w:=by
  intro L fuel a w hs hall hq
  have hz:Region.ready .any ⟨l++[o]⟩ ((L.push false).setIfInBounds l.length true)=[]:=by
   cases q:Region.ready .any ⟨l++[o]⟩ ((L.push false).setIfInBounds l.length true) with
   |nil=>rfl
   |cons i r =>
    exfalso
    have hm:i∈Region.ready .any ⟨l++[o]⟩ ((L.push false).setIfInBounds l.length true):=by rw[q];simp
    obtain⟨h1,x,h2,_⟩:=mem_ready.1 hm
    have hi:i<l.length+1:=by simpa using (Array.getElem?_eq_some_iff.1 h2).1
    by_cases e:i=l.length
    ·subst e
     rw[Array.getD_eq_getD_getElem?,Array.getElem?_setIfInBounds_self_of_lt (by simp;omega)] at h1
     cases h1
    ·rw[Array.getD_eq_getD_getElem?,Array.getElem?_setIfInBounds_ne (Ne.symm e),<- Array.getD_eq_getD_getElem?,openL L i hs e] at h1
     have:=hall i (by omega)
     unfold Listed at this
     rw[Array.getD_eq_getD_getElem?] at h1 this
     cases q:L[i]? with
   |none=>rw[q] at this;cases this
   |some v =>
    rw[q] at h1 this
    simp only[Option.getD_some] at h1 this
    rw[h1] at this
    cases this
  cases fuel with
  |zero=>exact⟨hz,hq⟩
  |succ fuel=>exact⟨fun _=>hq,fun i hi=>by rw[hz] at hi;cases hi⟩
 intro fuel
 induction fuel with
 |zero =>
  intro L a w hs hc h
  refine⟨fun hr=>?_,fun i hi=>?_⟩
  ·have:=oH he (by simp[hs]) hr l.length (by simp)
   rw[pushL L _ hs] at this
   unfold Listed at this
   rw[Array.getD_eq_getD_getElem?,Array.getElem?_eq_none (by omega)] at this
   cases this
  ·have hi2:i<l.length+1:=by
    obtain⟨_,x,h2,_⟩:=mem_ready.1 hi
    simpa using (Array.getElem?_eq_some_iff.1 h2).1
   by_cases e:i=l.length
   ·subst e
    have hall:=lastI L hs hc hi
    exact pe (fun a w q=>fin L 0 a w hs hall q) h.2
   ·have:=readyI L i hs (by omega) hi
    rw[h.1] at this
    cases this
 |succ fuel ih =>
  intro L a w hs hc h
  refine⟨fun hr=>?_,fun i hi=>?_⟩
  ·have:=oH he (by simp[hs]) hr l.length (by simp)
   rw[pushL L _ hs] at this
   unfold Listed at this
   rw[Array.getD_eq_getD_getElem?,Array.getElem?_eq_none (by omega)] at this
   cases this
  ·have hi2:i<l.length+1:=by
    obtain⟨_,x,h2,_⟩:=mem_ready.1 hi
    simpa using (Array.getElem?_eq_some_iff.1 h2).1
   by_cases e:i=l.length
   ·subst e
    have hall:=lastI L hs hc hi
    exact pe (fun a w q=>fin L (fuel+1) a w hs hall q) (h.1 (none_ L hall))
   ·have hi':=readyI L i hs (by omega) hi
    have h2:=h.2 i hi'
    obtain⟨_,x,h3,h4⟩:=mem_ready.1 hi'
    have hgx:x.guard.isNone=true:=List.all_eq_true.1 hgl x (List.mem_append_left _ (List.mem_of_getElem? (by simpa using h3)))
    have hset:(L.push false).setIfInBounds i true=(L.setIfInBounds i true).push false:=by
     apply Array.ext
     ·simp
     ·intro k h1 h2
      rw[Array.size_setIfInBounds,Array.size_push] at h1
      rw[Array.getElem_setIfInBounds (by rw[Array.size_push];exact h1),Array.getElem_push,Array.getElem_push]
      by_cases c1:i=k
      ·subst c1
       rw[if_pos rfl,dif_pos (by rw[Array.size_setIfInBounds];omega),Array.getElem_setIfInBounds (by omega),if_pos rfl]
      ·rw[if_neg c1]
       by_cases c2:k<L.size
       ·rw[dif_pos c2,dif_pos (by rw[Array.size_setIfInBounds];exact c2),Array.getElem_setIfInBounds c2,if_neg c1]
       ·rw[dif_neg c2,dif_neg (by rw[Array.size_setIfInBounds];exact c2)]
    unfold fb at h2 ⊢
    rw[getl i x h3]
    rw[h3] at h2
    simp only at h2 ⊢
    rw[if_pos (kl hgx _)] at h2 ⊢
    refine th (fun a w q=>?_) (fun c a w q=>q) (fun q=>q) h2
    rw[hset]
    refine ih (L.setIfInBounds i true) a w (by simpa using hs) (fun j y hj hy ed m b=>?_) q
    rw[aT (by rw[hs];omega)] at hj ⊢
    rcases hj with rfl|hj
    ·rw[h3] at hy;cases hy
     exact .inr (h4 ed m b)
    ·exact .inr (hc j y hj hy ed m b)
def wR (l:List Oper) (o:Oper):Bool:=(l++[o]).all (fun x=>x.guard.isNone)&&lu ⟨l++[o]⟩&&(List.range l.length).all fun i=>((kX ⟨l++[o]⟩).getD l.length 0).testBit i
theorem CodeM.A9 {id:Nat}{l:List Oper}{o:Oper}{e:Env}{h:Heap}{K:X->Env->Heap->Prop} (hl:wR l o=true) (hd:cV ⟨l⟩=true) (hk:RegKS P N ⟨l⟩ h l 0 e h (vR P N o K)):CodeM P N (.region id ⟨l++[o]⟩ true) e h K:=⟨fun hM hok ι w a H0 r=>by
 simp only[wR,Bool.and_eq_true] at hl
 simp only[codeOk,Bool.and_eq_true] at hok
 have hoko:=(List.all_eq_true.1 hok.1) o (by simp)
 have hokl:gC N e.n ⟨l⟩=true:=List.all_eq_true.2 fun x m=>(List.all_eq_true.1 hok.1) x (List.mem_append_left _ m)
 obtain⟨e1,h1,hr,hq⟩:=hk.spec
 have hn:=hr.n.2
 obtain⟨E,H,V,T,rfl,rfl,rfl,rfl⟩:=hr.txt
 refine wp_region_any hM (uH ?_)
 have H0':HRel N ι (H 0) { w with drawn:=w.drawn+1 }:=H0.same rfl
 have S0:Step ι (H 0) w ι (H 0) { w with drawn:=w.drawn+1 }:=Step.same H0 rfl ⟨rfl,rfl,rfl,Nat.le_succ _⟩
 have hs:Array.replicate (⟨l++[o]⟩:Array Oper).size false=(Array.replicate l.length false).push false:=by
  apply Array.ext <;> simp[Array.getElem_push]
 rw[hs]
 have hsz:(⟨l++[o]⟩:Array Oper).size=l.length+1:=by simp
 rw[hsz]
 refine zj hl.1.1 hl.1.2 (fun i hi=>dc (List.all_eq_true.1 hl.2 i (List.mem_range.2 hi))) l.length _ a _ (by simp) (fun j x hj=>?_) ?_
 ·exfalso
  unfold Listed at hj
  rw[Array.getD_eq_getD_getElem?,Array.getElem?_replicate] at hj
  split at hj <;> simp at hj
 refine oJ T hd hokl H0' (fun a' w' ι' q1 q2 q3=>?_) l.length _ a _ ι 0 ?_ (nM H0' r)
 ·show fb P ⟨l++[o]⟩ _ l.length _ a' w'
  unfold fb
  have ho:(⟨l++[o]⟩:Array Oper)[l.length]?=some o:=by simp
  rw[ho]
  simp only
  rw[if_pos (kl (List.all_eq_true.1 hl.1.1 o (by simp)) _)]
  exact qw (by rw[hn];exact hoko) hn q2 q1 (S0.trans q3) hq
 ·unfold kE
  refine Nat.le_trans List.countP_le_length ?_
  simp⟩
theorem CallM.body (hM:P.follows .mixedOrders=true) {f:FuncId}{fn:Func}{c:Code} (hf:P.funcs[f]?=some fn) (hb:fn.body=some c) (ho:fY N fn=true) {vs:Array Value} (hs:vs.size<=fn.ntmps) {h:Heap}{Q:Value->Heap->Prop}
  (hk:CodeM P N c (bZ fn.ntmps vs) h fun x e1 h1=>match x with
   |.exit _=>False
   |_=>mj P e1 h1 fn.results.toList fun vs=>Q (qM vs) h1):CallM P N f vs h Q:=by
 obtain⟨ok1,ok2⟩:=jH hf hb ho
 refine⟨ok1,fun ι w vs' H ra=>calls_of_wp hf hb ?_⟩
 have hr0:ERel ι (bZ fn.ntmps vs) { tmps:=vs'++Array.replicate (fn.ntmps-vs'.size) undef,defers:=[] }:=xP ra hs
 refine wp_mono (hk.spec hM (by rw[eP];exact ok2) ι w _ H hr0) ?_
 rintro x a' w' ⟨y,e1,h1,rfl,k,hn,hsz,ι',r',H',S⟩
 cases y with
 |exit id=>exact k.elim
 |normal =>
  obtain⟨v,hv,hq⟩:=eN (K:=fun v=>Q v h1) k
  obtain⟨v',p1,p2⟩:=cP H' r' hv
  exact⟨r'.defers,v',p1,ι',v',v,h1,rfl,hq,hsz,p2,H',S⟩
 |ret =>
  obtain⟨v,hv,hq⟩:=eN (K:=fun v=>Q v h1) k
  obtain⟨v',p1,p2⟩:=cP H' r' hv
  exact⟨r'.defers,v',p1,ι',v',v,h1,rfl,hq,hsz,p2,H',S⟩
theorem CallM.room {f:FuncId}{g s k:Nat}{l:List Value}{h:Heap}{Q:Value->Heap->Prop} (hk:0<k) (c1:CallM P N f ⟨.slice (some ⟨g,0,none⟩) k k::l⟩ h Q) (c2:CallM P N f ⟨.slice (some ⟨g,0,some s⟩) k (k+1)::l⟩ h Q) :
  CallM P N f ⟨.slice (some ⟨g,0,some s⟩) k k::l⟩ h Q:=by
 refine⟨c1.ok,fun ι w vs' H ra=>?_⟩
 rw[ARel.da] at ra
 obtain⟨vs'⟩:=vs'
 cases vs' with
 |nil=>exact absurd ra.1 (by simp)
 |cons v' r' =>
  have q:=ra.2 0
  simp only[List.getD_cons_zero] at q
  have tl:∀ x,VRel ι x v'->ARel ι ⟨x::l⟩ ⟨v'::r'⟩:=fun x hx=>by
   rw[ARel.da]
   refine⟨ra.1,fun i=>?_⟩
   cases i with
   |zero=>simpa using hx
   |succ i=>simpa using ra.2 (i+1)
  cases q with
  |sliceOpen _ _ _ _ _ cap' o l0 hl h1 h2 h3 h4 =>
   by_cases e:cap'=k
   ·subst e
    exact c1.spec ι w _ H (tl _ (.slice g 0 _ _ o l0 hl h1 h3))
   ·exact c2.spec ι w _ H (tl _ (.sliceOpen g 0 s k (k+1) cap' o l0 hl (by omega) (by omega) (fun _=>h3 (by omega)) h4))
theorem CallM.Dk {f:FuncId}{l l':List Value}{h:Heap}{Q:Value->Heap->Prop} (c:CallM P N f ⟨l⟩ h Q) (a:LLe h l' l):CallM P N f ⟨l'⟩ h Q :=
 ⟨c.ok,fun ι w vs' H ra=>c.spec ι w vs' H (a.Ab H ra)⟩
end
end Go.Abs

namespace Go.Abs
section
variable {P:Program} {N:Nat} {B:List AObj} {h0 h:Heap} {L:List Slot}
theorem CodeM.reg {id:Nat}{l:List Oper}{e:Env}{K:X->Env->Heap->Prop} (hk:RegS P N ⟨l⟩ l 0 e h (K .normal)):CodeM P N (.region id ⟨l⟩ false) e h K:=CodeM.ofS (CodeS.step hk)
theorem CodeM.draw {id:Nat}{l:List Oper}{e:Env}{K:X->Env->Heap->Prop} (hk:RegKS P N ⟨l⟩ h l 0 e h (K .normal)):CodeM P N (.region id ⟨l⟩ true) e h K:=CodeM.ofS (CodeS.Ef hk)
theorem CodeM.skip {e:Env}{K:X->Env->Heap->Prop} (hk:K .normal e h):CodeM P N .skip e h K:=CodeM.ofS (CodeS.step hk)
theorem CodeM.exit {id:Nat}{e:Env}{K:X->Env->Heap->Prop} (hk:K (.exit id) e h):CodeM P N (.exit id) e h K:=CodeM.ofS (CodeS.step hk)
theorem CodeM.ret {e:Env}{K:X->Env->Heap->Prop} (hk:K .ret e h):CodeM P N .ret e h K:=CodeM.ofS (CodeS.step hk)
theorem CodeM.ghost {c:Code}{e:Env}{K:X->Env->Heap->Prop} (O:Own B h0 L h) {g gl:Nat}{cs cs2 cs2':List Value}{ro ro2:Bool}{f1 f2:Slot->List Slot} (A1:At (some g,.cells cs ro) L f1) (A2:At (some gl,.cells cs2 ro2) (f1 (some g,.cells cs true)) f2)
  {t1 t2 o1 n1 c1 o2 n2 c2:Nat} {sp1 sp2:Option Nat} (ht1:Nat.blt t1 e.n=true) (hv1:e.get t1=.slice (some ⟨g,o1,sp1⟩) n1 c1) (ht2:Nat.blt t2 e.n=true) (hv2:e.get t2=.slice (some ⟨gl,o2,sp2⟩) n2 c2)
  (le:∀ h2,h2.get g=some (.cells cs true)->LLe h2 cs2 cs2') (k:∀ h,Own B h0 (f2 (some gl,.cells cs2' ro2)) h->CodeM P N c e h K):CodeM P N c e h K:=by
 have hg:=O.at A1.mem
 have u1:=Upd.upd (.cells cs true) (Heap.ak hg)
 have O1:=O.upd A1 u1
 have hg2:=O1.at A2.mem
 have u2:=Upd.upd (.cells cs2' ro2) (Heap.ak hg2)
 have O2:=O1.upd A2 u2
 have hc:=k _ O2
 refine⟨fun hM hok ι w a H r=>?_⟩
 obtain⟨l1,e1'⟩:=dZ r (Nat.le_of_ble_eq_true ht1) hv1
 obtain⟨l2,e2'⟩:=dZ r (Nat.le_of_ble_eq_true ht2) hv2
 obtain⟨ι2,H2,S2⟩:=fX H e1' hg
 have e2'':=S2.ext.at_ _ _ e2'
 have H3:=H2.fi hg2 (le _ u1.get)
 have S3:=Step.fi H2 e2'' hg2 (cs':=cs2')
 refine wp_mono (hc.spec hM hok ι2 w a H3 (r.mono S2.ext)) ?_
 intro x' a' w' q
 exact OutM.trans q (by rw[u2.size,u1.size];exact Nat.le_refl _) (S2.trans S3)
theorem CodeM.Eb {id:Nat}{l:List Oper}{o:Oper}{e:Env}{K:X->Env->Heap->Prop} (ho:l.getLast?=some o) (hl:wR l.dropLast o=true) (hd:cV ⟨l.dropLast⟩=true) (hk:RegKS P N ⟨l.dropLast⟩ h l.dropLast 0 e h (vR P N o K)):CodeM P N (.region id ⟨l⟩ true) e h K:=by
 have e1:l=l.dropLast++[o]:=by
  obtain⟨hne,h2⟩:=List.getLast?_eq_some_iff.1 ho
  rw[h2];simp
 rw[e1]
 exact CodeM.A9 hl hd hk
theorem CodeM.Ej {id:Nat}{l:List Oper}{o:Oper}{e:Env}{K:X->Env->Heap->Prop} (ho:l.getLast?=some o) (hg:o.guard.isNone=true) (hk:RegS P N ⟨l⟩ l.dropLast 0 e h (vR P N o K)):CodeM P N (.region id ⟨l⟩ false) e h K:=by
 have e1:l=l.dropLast++[o]:=by
  obtain⟨hne,h2⟩:=List.getLast?_eq_some_iff.1 ho
  rw[h2];simp
 rw[e1] at hk ⊢
 simp only[List.dropLast_concat] at hk
 exact CodeM.BL hg hk
theorem LLe.append {a a' b b':List Value} (x:LLe h a a') (y:LLe h b b'):LLe h (a++b) (a'++b'):=by
 refine⟨by simp[x.1,y.1],fun i=>?_⟩
 have h1:=x.2 i
 have h2:=y.2 (i-a.length)
 have hl:=x.1
 simp only[List.getD] at h1 h2 ⊢
 by_cases c:i<a.length
 ·rw[List.getElem?_append_left c,List.getElem?_append_left (by omega)];exact h1
 ·rw[List.getElem?_append_right (by omega),List.getElem?_append_right (by omega)]
  have e:i-a'.length=i-a.length:=by omega
  rw[e];exact h2
theorem YOk.pre {α:Type}{g s n c:Nat}{sp:Option Nat}{ro:Bool}{v:Value}{enc:α->Value}{l new:List α} (hg:h.get g=some (.cells (flatC ((new++l).map enc)) ro)) (hv:v=.slice (some ⟨g,0,sp⟩) n c) (hs:∀ x:α,(cl (enc x)).length=s) (hn:n=new.length):YOk h s v enc new:=by
 subst hv hn
 have e1:=lq hs (new++l) 0 new.length (by simp)
 simp only[Nat.zero_mul,Nat.add_zero,List.drop_zero,List.take_left' rfl] at e1
 refine⟨by simp[lenOf],?_⟩
 unfold firstOf
 simp only[hg]
 rw[List.drop_zero,if_pos,e1]
 rw[aM hs]
 have:new.length*s<=(new++l).length*s:=Nat.mul_le_mul_right s (by simp)
 omega
end
end Go.Abs
