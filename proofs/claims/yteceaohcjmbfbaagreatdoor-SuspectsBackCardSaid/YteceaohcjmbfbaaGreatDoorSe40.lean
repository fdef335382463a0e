/-
  AbsXm: parts of the proof.
-/
import Derived.Test.YteceaohcjmbfbaaGreatDoorSe39
namespace Go.Abs
open Go.ChangeMaps (setBlock)
section
variable {P:Program} {N:Nat}
def OutM (N:Nat) (ι:Inj) (n:Nat) (h:Heap) (w:World) (K:X->Env->Heap->Prop) (x:Exit) (a':Act) (w':World):Prop :=
 ∃ (y:X) (e1:Env) (h1:Heap),x=y.toExit/\K y e1 h1/\e1.n=n/\h.size<=h1.size/\∃ ι',ERel ι' e1 a'/\HRel N ι' h1 w'/\Step ι h w ι' h1 w'
theorem OutM.trans {ι ι':Inj}{n:Nat}{h h1:Heap}{w w':World}{K:X->Env->Heap->Prop}{x:Exit}{a:Act}{w2:World} (q:OutM N ι' n h1 w' K x a w2) (hs:h.size<=h1.size) (S:Step ι h w ι' h1 w'):OutM N ι n h w K x a w2:=by
 obtain⟨y,e2,h2,rfl,k,hn,hs2,ι2,r2,H2,S2⟩:=q
 exact⟨y,e2,h2,rfl,k,hn,Nat.le_trans hs hs2,ι2,r2,H2,S.trans S2⟩
structure CodeM (P:Program) (N:Nat) (c:Code) (e:Env) (h:Heap) (K:X->Env->Heap->Prop):Prop where
 spec:P.follows .mixedOrders=true->codeOk N e.n c=true->∀ ι w a,HRel N ι h w->ERel ι e a->c.wp P (OutM N ι e.n h w K) a w
theorem CodeM.ofS {c:Code}{e:Env}{h:Heap}{K:X->Env->Heap->Prop} (hk:CodeS P N c e h K):CodeM P N c e h K:=⟨fun hM hok ι w a H r=>by
 obtain⟨x,e1,h1,c1,k⟩:=hk.spec hM hok
 refine wp_mono (c1.2 ι w a H r) ?_
 rintro x' a' w' ⟨rfl,ι',r',H',S⟩
 exact⟨x,e1,h1,rfl,k,c1.1.2,c1.1.1,ι',r',H',S⟩⟩
theorem CodeM.mono {c:Code}{e:Env}{h:Heap}{K K':X->Env->Heap->Prop} (hk:CodeM P N c e h K) (m:∀ x e1 h1,K x e1 h1->K' x e1 h1):CodeM P N c e h K':=⟨fun hM hok ι w a H r=>by
 refine wp_mono (hk.spec hM hok ι w a H r) ?_
 rintro x' a' w' ⟨y,e1,h1,q,k,rest⟩
 exact⟨y,e1,h1,q,m _ _ _ k,rest⟩⟩
theorem CodeM.seq {a b:Code}{e:Env}{h:Heap}{K:X->Env->Heap->Prop}
  (hk:CodeM P N a e h fun x e1 h1=>match x with
   |.normal=>CodeM P N b e1 h1 K
   |.exit id=>K (.exit id) e1 h1
   |.ret=>K .ret e1 h1):CodeM P N (.seq a b) e h K:=⟨fun hM hok ι w ac H r=>by
 simp only[codeOk,Bool.and_eq_true] at hok
 refine wp_seq (wp_mono (hk.spec hM hok.1 ι w ac H r) ?_)
 rintro x' a' w' ⟨y,e1,h1,rfl,k,hn,hs,ι',r',H',S⟩
 cases y with
 |normal =>
  refine wp_mono (k.spec hM (by rw[hn];exact hok.2) ι' w' a' H' r') ?_
  intro x2 a2 w2 q
  rw[hn] at q
  exact q.trans hs S
 |exit id=>exact⟨.exit id,e1,h1,rfl,k,hn,hs,ι',r',H',S⟩
 |ret=>exact⟨.ret,e1,h1,rfl,k,hn,hs,ι',r',H',S⟩⟩
theorem CodeM.block {id:Nat}{c:Code}{e:Env}{h:Heap}{K:X->Env->Heap->Prop}
  (hk:CodeM P N c e h fun x e1 h1=>match x with
   |.normal=>K .normal e1 h1
   |.exit id'=>match Nat.beq id' id with
    |true=>K .normal e1 h1
    |false=>K (.exit id') e1 h1
   |.ret=>K .ret e1 h1):CodeM P N (.block id c) e h K:=⟨fun hM hok ι w ac H r=>by
 simp only[codeOk] at hok
 refine wp_block (wp_mono (hk.spec hM hok ι w ac H r) ?_)
 rintro x' a' w' ⟨y,e1,h1,rfl,k,rest⟩
 cases y with
 |normal=>exact⟨.normal,e1,h1,rfl,k,rest⟩
 |ret=>exact⟨.ret,e1,h1,rfl,k,rest⟩
 |exit id' =>
  simp only at k
  show Exit.inBlock id _ (.exit id') a' w'
  cases he:Nat.beq id' id with
  |true =>
   have:id'=id:=Nat.eq_of_beq_eq_true he
   subst this
   rw[qI]
   rw[he] at k
   exact⟨.normal,e1,h1,rfl,k,rest⟩
  |false =>
   have:id'≠id:=Nat.ne_of_beq_eq_false he
   rw[rL this]
   rw[he] at k
   exact⟨.exit id',e1,h1,rfl,k,rest⟩⟩
theorem CodeM.cond {c:Operand}{a b:Code}{e:Env}{h:Heap}{K:X->Env->Heap->Prop} (hk:∃ t,e.eval c=.bool t/\(t=true->CodeM P N a e h K)/\(t=false->CodeM P N b e h K)):CodeM P N (.cond c a b) e h K:=⟨fun hM hok ι w ac H r=>by
 simp only[codeOk,Bool.and_eq_true] at hok
 obtain⟨t,hc,h1,h2⟩:=hk
 have q:=r.eval H hok.1.1
 rw[hc] at q
 have q':ac.eval c=.bool t:=q.bz rfl
 cases t
 ·exact wp_cond_false q' ((h2 rfl).spec hM hok.2 ι w ac H r)
 ·exact wp_cond_true q' ((h1 rfl).spec hM hok.1.2 ι w ac H r)⟩
theorem ERel.qu {ι:Inj}{e e':Env}{h:Heap}{w:World}{a:Act} (r:ERel ι e a) (H:HRel N ι h w) (hn:e'.n=e.n) (hv:∀ t,VLe h (e.get t) (e'.get t)):ERel ι e' a :=
 ⟨r.defers,by rw[hn];exact r.size,fun t ht=>hv t N ι w _ H (r.get t (by rw[<- hn];exact ht))⟩
theorem CodeM.qu {c:Code}{e e':Env}{h:Heap}{K:X->Env->Heap->Prop} (hn:e'.n=e.n) (hv:∀ t,VLe h (e.get t) (e'.get t)) (hk:CodeM P N c e' h K):CodeM P N c e h K:=⟨fun hM hok ι w a H r=>by
 have:=hk.spec hM (by rw[hn];exact hok) ι w a H (r.qu H hn hv)
 rwa [hn] at this⟩
theorem oS {c:Code}{Q:Exit->Act->World->Prop}:∀ {n m:Nat}{a:Act}{w:World},n<=m->Code.rounds P c Q n a w->Code.rounds P c Q m a w
 |0,m,a,w,_,hr=>by cases hr
 |n+1,0,a,w,h,_=>by omega
 |n+1,m+1,a,w,h,hr=>by
  rw[rounds_succ] at hr ⊢
  refine wp_mono hr ?_
  intro x a' w' q
  cases x <;> first|exact q|exact oS (by omega) q
theorem CodeM.loop {c:Code}{nn:Nat}{σ:Type} (I:σ->Heap->Prop) (env:σ->List (Nat×Value)) (μ:σ->Nat) {e:Env}{h:Heap}{K:X->Env->Heap->Prop} (hn:e.n=nn)
  (start:∃ s,I s h/\dc h (env s) e)
  (round:∀ s base h,I s h->cD (cu (env s)) fun t=>CodeM P N c ⟨nn,t,base⟩ h fun x e1 h1=>match x with
   |.normal=>∃ s',μ s'<μ s/\I s' h1/\dc h1 (env s') e1
   |.exit id=>K (.exit id) e1 h1
   |.ret=>K .ret e1 h1):CodeM P N (.loop c) e h K:=⟨fun hM hok=>by
 simp only[codeOk] at hok
 rw[hn] at hok
 have key:∀ (m:Nat) (s:σ) (e:Env) (h:Heap),μ s=m->e.n=nn->I s h->dc h (env s) e->∀ ι w a,HRel N ι h w->ERel ι e a->Code.rounds P c (OutM N ι nn h w K) (m+1) a w:=by
  intro m
  induction m using Nat.strongRecOn with
  |_ m ih =>
   intro s e h hm he hI hh ι w a H r
   have c1:=((aY _ _).1 (round s e.get h hI))
   have r2:ERel ι (⟨nn,cu (env s),e.get⟩:Env) a:=r.qu H he.symm (fun t=>by have:=iK hh t;rw[he] at this;exact this)
   rw[rounds_succ]
   refine wp_mono (c1.spec hM hok ι w a H r2) ?_
   rintro x' a' w' ⟨y,e1,h1,rfl,k,hn1,hs,ι',r',H',S⟩
   cases y with
   |normal =>
    obtain⟨s',hlt,hI',hh'⟩:=k
    have:=ih (μ s') (hm ▸ hlt) s' e1 h1 rfl hn1 hI' hh' ι' w' a' H' r'
    exact oS (by omega) (kC (fun x a w q=>q.trans hs S) _ _ _ this)
   |exit id=>exact⟨.exit id,e1,h1,rfl,k,hn1,hs,ι',r',H',S⟩
   |ret=>exact⟨.ret,e1,h1,rfl,k,hn1,hs,ι',r',H',S⟩
 obtain⟨s,hI,hh⟩:=start
 intro ι w a H r
 rw[hn]
 exact wp_loop_rounds _ (key (μ s) s e h rfl hn hI hh ι w a H r)⟩
theorem CodeM.join {a b:Code}{nn:Nat}{σ:Type} (I:σ->Heap->Prop) (env:σ->List (Nat×Value)) {e:Env}{h:Heap}{K:X->Env->Heap->Prop} (hn:e.n=nn)
  (hfirst:CodeM P N a e h fun x e1 h1=>match x with
   |.normal=>∃ s,I s h1/\dc h1 (env s) e1
   |.exit id=>K (.exit id) e1 h1
   |.ret=>K .ret e1 h1)
  (hrest:∀ s base h1,I s h1->cD (cu (env s)) fun t=>CodeM P N b ⟨nn,t,base⟩ h1 K):CodeM P N (.seq a b) e h K:=⟨fun hM hok ι w ac H r=>by
 simp only[codeOk,Bool.and_eq_true] at hok
 refine wp_seq (wp_mono (hfirst.spec hM hok.1 ι w ac H r) ?_)
 rintro x' a' w' ⟨y,e1,h1,rfl,k,hn1,hs,ι',r',H',S⟩
 cases y with
 |normal =>
  obtain⟨s,hI,hh⟩:=k
  have he:e1.n=nn:=hn1.trans hn
  have r2:ERel ι' (⟨nn,cu (env s),e1.get⟩:Env) a':=r'.qu H' he.symm (fun t=>by have:=iK hh t;rw[he] at this;exact this)
  refine wp_mono (((aY _ _).1 (hrest s e1.get h1 hI)).spec hM (by show codeOk N nn b=true;rw[<- hn];exact hok.2) ι' w' a' H' r2) ?_
  intro x2 a2 w2 q
  rw[hn]
  exact OutM.trans (n:=nn) q hs S
 |exit id=>exact⟨.exit id,e1,h1,rfl,k,hn1,hs,ι',r',H',S⟩
 |ret=>exact⟨.ret,e1,h1,rfl,k,hn1,hs,ι',r',H',S⟩⟩
theorem Step.Cv {ι:Inj}{h:Heap}{w:World} (H:HRel N ι h w):Step ι h w ι h w.drew:=Step.same H rfl ⟨rfl,rfl,rfl,Nat.le_succ _⟩
theorem CodeM.next {id:Nat}{rest:List Oper}{x:Operand}{d1:Tmp}{ty:TypeId}{pos:String}{af:Array Edge}{e:Env}{h:Heap}{K:X->Env->Heap->Prop}{g0 g n:Nat}{seen:List Nat}{es:List (Value×Value)}
  (hx:e.eval x=.pointer (some ⟨g0,0,none⟩)) (h0:h.get g0=some (.rng g seen n)) (hg:h.get g=some (.map es)) (hn:es.length=n)
  (done:(∀ i,i<n->i∈seen)->RegS P N ⟨{ dst:=some d1,op:=.next x false,type:=ty,pos:=pos,after:=af,guard:=none }::rest⟩ rest 1 (e.put (some d1) (.tuple #[.bool false])) h (K .normal))
  (step:∀ i k v,es[i]?=some (k,v)->i ∉ seen->RegS P N ⟨{ dst:=some d1,op:=.next x false,type:=ty,pos:=pos,after:=af,guard:=none }::rest⟩ rest 1 (e.put (some d1) (.tuple #[.bool true,k,v])) (h.upd g0 (.rng g (seen++[i]) n)) (K .normal)) :
  CodeM P N (.region id ⟨{ dst:=some d1,op:=.next x false,type:=ty,pos:=pos,after:=af,guard:=none }::rest⟩ false) e h K:=⟨fun hM hok ι w a H r=>by
 simp only[codeOk,Bool.and_eq_true] at hok
 have hok1:=hok.1
 have hoko:=(List.all_eq_true.1 hok1) _ (List.mem_cons_self ..)
 have hx':=oU H r hoko x (by simp[Op.operands])
 rw[hx] at hx'
 generalize ex:a.eval x=y at hx'
 cases hx'
 rename_i l0 hl0
 obtain⟨lg,q1,q2,q3⟩:=H.obj g0 l0 _ hl0 h0
 obtain⟨E,c,k1,k2,k3,k4,k5,k6⟩:=H.obj g lg _ q1 hg
 have hb0:l0.base+0=0:=by omega
 have hc:c=n:=by omega
 refine wp_region ?_
 show wpOps P _ _ (List.range (rest.length+1)) a w
 rw[List.range_eq_range',List.range'_succ,wpOps_cons]
 unfold wpOp
 simp only[List.getElem?_toArray,List.getElem?_cons_zero]
 have hw:∀ f,Region.wanted { dst:=some d1,op:=.next x false,type:=ty,pos:=pos,after:=af,guard:=none } f=true:=fun _=>rfl
 rw[if_pos (hw _)]
 have tl:∀ j,rest[j]?=(⟨{ dst:=some d1,op:=.next x false,type:=ty,pos:=pos,after:=af,guard:=none }::rest⟩:Array Oper)[0+1+j]?:=fun j=>by simp[Nat.add_comm]
 have go:∀ (v v':Value) (h1:Heap) (w1:World),RegS P N ⟨{ dst:=some d1,op:=.next x false,type:=ty,pos:=pos,after:=af,guard:=none }::rest⟩ rest 1 (e.put (some d1) v) h1 (K .normal)->VRel ι v v'->HRel N ι h1 w1->Step ι h w ι h1 w1 ->
   wpOps P ⟨{ dst:=some d1,op:=.next x false,type:=ty,pos:=pos,after:=af,guard:=none }::rest⟩ (OutM N ι e.n h w K) (List.range' (0+1) rest.length) (a.put (some d1) v') w1:=by
  intro v v' h1 w1 hr rv H1 S1
  obtain⟨e2,h2,hd,hk⟩:=hr.spec
  refine lr rest (0+1) tl ι _ _ h1 w1 e2 h2 (by rw[Env.eJ];exact hok1) hd H1 ((r.mono S1.ext).put (tu hoko) rv) fun ι' a' w' r1 r2 r3=>?_
  exact⟨.normal,e2,h2,rfl,hk,by rw[hd.n,Env.eJ],Nat.le_trans S1.size hd.size,ι',r1,r2,S1.trans r3⟩
 refine .inl ?_
 unfold Oper.wp
 have hex:∀ (r0:Result Value),(Instr.next (.pointer (some ⟨l0.blk,0,none⟩)) false ty).run P w=r0->(execOp a.eval { dst:=some d1,op:=.next x false,type:=ty,pos:=pos,after:=af,guard:=none }).run P w=r0.andThen fun v w=>.ok (.value v) w:=fun r0 q=>by
  simp only[execOp,ex,hb0]
  rw[Sem.run_bind,q]
  rfl
 rcases run_next_at (P:=P) w ty l0.blk lg.blk n n ⟨seen⟩ E c q2 k1 (fun m hm=>by
   obtain⟨i,hi⟩:=List.getElem?_of_mem hm
   have hi':E[i]?=some m:=by simpa using hi
   rw[k6 i m hi']
   have:=(Array.getElem?_eq_some_iff.1 hi').1
   omega) (Nat.le_refl _) with⟨hz,hr⟩|⟨m,hm,w1,hw1,hr⟩
 ·rw[hex _ hr]
  refine go _ _ h w (done fun i hi=>?_) (VRel.qU _) H (Step.refl w H.dom)
  refine Classical.byContradiction fun hns=>?_
  have hiE:i<E.size:=by omega
  have hb:=k6 i E[i] (Array.getElem?_eq_getElem hiE)
  have hmem:E[i]∈leftOf E ⟨seen⟩:=by
   unfold leftOf
   refine Array.mem_filter.2 ⟨Array.getElem_mem hiE,?_⟩
   rw[hb]
   simp[hns]
  have:=Array.size_pos_of_mem hmem
  omega
 ·rw[hex _ hr]
  have hmE:m∈E/\(!(⟨seen⟩:Array Nat).contains m.born)=true:=by
   have:m∈leftOf E ⟨seen⟩:=by simpa using hm
   unfold leftOf at this
   exact Array.mem_filter.1 this
  obtain⟨i,hi⟩:=Array.getElem?_of_mem hmE.1
  have hb:=k6 i m hi
  have hi2:i<es.length:=by have:=(Array.getElem?_eq_some_iff.1 hi).1;omega
  obtain⟨m',m1,m2,m3⟩:=k4 i es[i].1 es[i].2 (List.getElem?_eq_getElem hi2)
  rw[hi] at m1
  cases m1
  have hns:i ∉ seen:=by
   have:=hmE.2
   rw[hb] at this
   simpa using this
  have H1:HRel N ι h w1:=by
   rcases hw1 with q|q
   ·rw[q];exact H
   ·rw[q];exact H.same rfl
  have S1:Step ι h w ι h w1:=by
   rcases hw1 with q|q
   ·rw[q];exact Step.refl w H.dom
   ·rw[q];exact Step.Cv H
  have hlt:l0.blk<w1.heap.size:=H1.blk g0 l0 hl0
  obtain⟨H2,S2⟩:=HRel.write H1 hl0 ⟨_,h0,rfl⟩ (o':=.rng g (seen++[i]) n) (w':=setBlock w1 l0.blk (.mapIter (some lg.blk) n ((⟨seen⟩:Array Nat).push m.born) c)) (by simp[setBlock]) (fun b hb=>by simp[setBlock,Ne.symm hb]) ⟨lg,q1,by simp[setBlock,hlt,hb,hc],q3⟩ ⟨rfl,rfl,rfl,Nat.le_refl _⟩
  refine go _ _ _ _ (step i es[i].1 es[i].2 (List.getElem?_eq_getElem hi2) hns) ?_ H2 (S1.trans S2)
  exact .tuple _ _ rfl (aO.cons (VRel.bool true) (aO.cons m2 (aO.cons m3 (aO.nil ι)))).array.2⟩
theorem AD {ι:Inj}{n:Nat}{vs vs':Array Value} (r:bl ι vs vs') (hs:vs.size<=n):ERel ι (cW n vs) { tmps:=vs'++Array.replicate (n-vs'.size) undef,defers:=[] }:=by
 refine⟨rfl,?_,fun t _=>?_⟩
 ·rw[ig];simp;have:=r.1;omega
 ·rw[pd]
  have q:=r.2 t
  by_cases ht:t<vs'.size
  ·have:(vs'++Array.replicate (n-vs'.size) undef).getD t undef=vs'.getD t undef:=by
    rw[Array.getD_eq_getD_getElem?,Array.getD_eq_getD_getElem?,Array.getElem?_append_left ht]
   rw[this];exact q
  ·have e1:(vs'++Array.replicate (n-vs'.size) undef).getD t undef=undef:=by
    rw[Array.getD_eq_getD_getElem?,Array.getElem?_append_right (by omega),Array.getElem?_replicate]
    split <;> rfl
   have e2:vs.getD t undef=undef:=by
    rw[Array.getD_eq_getD_getElem?,Array.getElem?_eq_none (by have:=r.1;omega)];rfl
   rw[e1,e2];exact VRel.nothing ι
theorem pe {ι ι':Inj}{h h1:Heap}{w w':World}{v v' r:Value} (H:HRel N ι h w) (H':HRel N ι' h1 w') (S:Step ι h w ι' h1 w') (r':VRel ι' v v') (e:Ext h h1) (hr:PureV r) (hv:∀ h2,Frozen h.size h1 h2->VLe h2 v r) :
  ∃ ι'',VRel ι'' r v'/\HRel N ι'' h w'/\Step ι h w ι'' h w':=by
 obtain⟨ι2,h2,H2,F,fs⟩:=H'.sO h.size
 have hx:Ext h h2:=F.ext e.1 e (Nat.le_refl _)
 have rr:VRel ι2 r v':=hv h2 F N ι2 w' v' H2 (r'.mono fs.le)
 have core:=sQ H H2 (S.ext.trans fs.le) S.wsize S.frame S.out (fun b C q1 q2=>?_) hx
 ·exact⟨ι.with ι2,hr ι2 _ v' (fun _ _ q=>q) rr,core⟩
 ·cases q3:ι'.fz b with
  |some C'=>exact S.fzown b C' q3 q2
  |none =>
   obtain⟨g0,l0,h1,h2⟩:=fs.own b C q1 q3
   cases q4:ι g0 with
   |some l1 =>
    have:=S.ext.at_ g0 l1 q4
    rw[h1] at this;cases this
    exact .inr ⟨g0,l0,q4,h2⟩
   |none =>
    rcases S.own g0 l0 h1 q4 with k1|⟨g1,l1,k1,_,k2⟩
    ·exact .inl (h2 ▸ k1)
    ·exact .inr ⟨g1,l1,k1,k2.trans h2⟩
theorem fnM (hM:P.follows .mixedOrders=true) {f:FuncId}{fn:Func}{c:Code} (hf:P.funcs[f]?=some fn) (hb:fn.body=some c) (ho:jg N fn=true) {vs:Array Value} (hs:vs.size<=fn.ntmps) {h:Heap}{B:List AObj} (hB:HasB B h) {r:Value} (hr:PureV r)
  (hk:Own B h [] h->CodeM P N c (cW fn.ntmps vs) h fun x e1 h1=>match x with
   |.exit _=>False
   |_=>kp P e1 h1 fn.results.toList fun vs=>Ext h h1/\∀ h2,Frozen h.size h1 h2->VLe h2 (rT vs) r):CallD P N f vs h r h:=by
 obtain⟨ok1,ok2⟩:=nB hf hb ho
 refine⟨Nat.le_refl _,fun ι w vs' H ra=>.inl ⟨ok1,calls_of_wp hf hb ?_⟩⟩
 have hr0:ERel ι (cW fn.ntmps vs) { tmps:=vs'++Array.replicate (fn.ntmps-vs'.size) undef,defers:=[] }:=AD ra hs
 refine wp_mono ((hk (Own.start hB)).spec hM (by rw[ig];exact ok2) ι w _ H hr0) ?_
 rintro x a' w' ⟨y,e1,h1,rfl,k,hn,hsz,ι',r',H',S⟩
 cases y with
 |exit id=>exact k.elim
 |normal =>
  obtain⟨v,hv,hx,hq⟩:=jY (K:=fun v=>Ext h h1/\∀ h2,Frozen h.size h1 h2->VLe h2 v r) k
  obtain⟨v',p1,p2⟩:=iG H' r' hv
  obtain⟨ι'',c1,c2,c3⟩:=pe H H' S p2 hx hr hq
  exact⟨r'.defers,v',p1,ι'',v',rfl,c1,c2,c3⟩
 |ret =>
  obtain⟨v,hv,hx,hq⟩:=jY (K:=fun v=>Ext h h1/\∀ h2,Frozen h.size h1 h2->VLe h2 v r) k
  obtain⟨v',p1,p2⟩:=iG H' r' hv
  obtain⟨ι'',c1,c2,c3⟩:=pe H H' S p2 hx hr hq
  exact⟨r'.defers,v',p1,ι'',v',rfl,c1,c2,c3⟩
end
end Go.Abs
