/- Parts of the proof. -/
import Derived.Test.YtglgdkineobbeaaGreatDoorTn38
open Array renaming mem_filter->R4,replicate->Nh
open Go.Code renaming rounds->Qi
open Go.Value renaming slice->Pu
open List renaming replicate->LY
open Nat renaming beq->NZ
namespace Go.Abs
open Go.ChangeMaps (setBlock)
section
variable {P:Program} {N:Nat}
def xE(N:Nat)(ι:Inj)(n:Nat)(h:Heap)(w:World)(K:X->Env->Heap->Prop)(x:Exit)(a':Act)(w':World):Prop :=
 ∃(y:X) (e1:Env) (h1:Heap),x=y.bN/\K y e1 h1/\e1.n=n/\h.size<=h1.size/\∃ι',ERel ι' e1 a'/\HRel N ι' h1 w'/\Step N ι h w ι' h1 w'
theorem xE.trans{ι ι':Inj}{n:Nat}{h h1:Heap}{w w':World}{K:X->Env->Heap->Prop}{x:Exit}{a:Act}{w2:World}(q:xE N ι' n h1 w' K x a w2)(hs:h.size<=h1.size)(S:Step N ι h w ι' h1 w'):xE N ι n h w K x a w2:=by
 obtain⟨y,e2,h2,rfl,k,hn,hs2,ι2,r2,H2,S2⟩:=q;exact⟨y,e2,h2,rfl,k,hn,Mf hs hs2,ι2,r2,H2,S.trans S2⟩
structure CodeM (P:Program) (N:Nat) (c:Code) (e:Env) (h:Heap) (K:X->Env->Heap->Prop):Prop where
 spec:P.follows .mixedOrders=true->codeOk N e.n c=true->∀ι w a,HRel N ι h w->ERel ι e a->c.wp P (xE N ι e.n h w K) a w
theorem CodeM.ofS{c:Code}{e:Env}{h:Heap}{K:X->Env->Heap->Prop}(hk:CodeS P N c e h K):CodeM P N c e h K:=⟨λhM hok ι w a H r=>by
 obtain⟨x,e1,h1,c1,k⟩:=hk.spec hM hok;refine wp_mono (c1.2 ι w a H r) ?_;rintro x' a' w' ⟨rfl,ι',r',H',S⟩
 exact⟨x,e1,h1,rfl,k,c1.1.2,c1.1.1,ι',r',H',S⟩⟩
theorem CodeM.mono{c:Code}{e:Env}{h:Heap}{K K':X->Env->Heap->Prop}(hk:CodeM P N c e h K)(m:∀x e1 h1,K x e1 h1->K' x e1 h1):CodeM P N c e h K':=⟨λhM hok ι w a H r=>by
 refine wp_mono (hk.spec hM hok ι w a H r) ?_;rintro x' a' w' ⟨y,e1,h1,q,k,rest⟩
 exact⟨y,e1,h1,q,m _ _ _ k,rest⟩⟩
theorem CodeM.seq{a b:Code}{e:Env}{h:Heap}{K:X->Env->Heap->Prop}
  (hk:CodeM P N a e h λx e1 h1=>match x with
   |.normal=>CodeM P N b e1 h1 K
   |.exit id=>K (.exit id) e1 h1
   |.ret=>K .ret e1 h1):CodeM P N (.seq a b) e h K:=⟨λhM hok ι w ac H r=>by
 simp only[codeOk,L9] at hok;refine wp_seq (wp_mono (hk.spec hM hok.1 ι w ac H r) ?_);rintro x' a' w' ⟨y,e1,h1,rfl,k,hn,hs,ι',r',H',S⟩
 cases y with
 |normal =>
  refine wp_mono (k.spec hM (by rw[hn];exact hok.2) ι' w' a' H' r') ?_;intro x2 a2 w2 q;rw[hn] at q;exact q.trans hs S
 |exit id=>exact⟨.exit id,e1,h1,rfl,k,hn,hs,ι',r',H',S⟩
 |ret=>exact⟨.ret,e1,h1,rfl,k,hn,hs,ι',r',H',S⟩⟩
theorem CodeM.block{id:Nat}{c:Code}{e:Env}{h:Heap}{K:X->Env->Heap->Prop}
  (hk:CodeM P N c e h λx e1 h1=>match x with
   |.normal=>K .normal e1 h1
   |.exit id'=>match NZ id' id with
    |true=>K .normal e1 h1
    |false=>K (.exit id') e1 h1
   |.ret=>K .ret e1 h1):CodeM P N (.block id c) e h K:=⟨λhM hok ι w ac H r=>by
 simp only[codeOk] at hok;refine wp_block (wp_mono (hk.spec hM hok ι w ac H r) ?_);rintro x' a' w' ⟨y,e1,h1,rfl,k,rest⟩
 cases y with
 |normal=>exact⟨.normal,e1,h1,rfl,k,rest⟩
 |ret=>exact⟨.ret,e1,h1,rfl,k,rest⟩
 |exit id' =>
  simp only at k
  show Exit.inBlock id _ (.exit id') a' w'
  cases he:NZ id' id with
  |true =>
   have:id'=id:=M6 he;subst this;rw[qu];rw[he] at k;exact⟨.normal,e1,h1,rfl,k,rest⟩
  |false =>
   have:id'≠id:=Q9 he;rw[qR this];rw[he] at k
   exact⟨.exit id',e1,h1,rfl,k,rest⟩⟩
theorem CodeM.cond{c:Operand}{a b:Code}{e:Env}{h:Heap}{K:X->Env->Heap->Prop}(hk:∃t,e.eval c=.bool t/\(t=true->CodeM P N a e h K)/\(t=false->CodeM P N b e h K)):CodeM P N (.cond c a b) e h K:=⟨λhM hok ι w ac H r=>by
 simp only[codeOk,L9] at hok;obtain⟨t,hc,h1,h2⟩:=hk;have q:=r.eval H hok.1.1;rw[hc] at q;have q':ac.eval c=.bool t:=q.bZ rfl
 cases t
 .exact wp_cond_false q' ((h2 rfl).spec hM hok.2 ι w ac H r)
 .exact wp_cond_true q' ((h1 rfl).spec hM hok.1.2 ι w ac H r)⟩
theorem ERel.Aw{ι:Inj}{e e':Env}{h:Heap}{w:World}{a:Act}(r:ERel ι e a)(H:HRel N ι h w)(hn:e'.n=e.n)(hv:∀t,VLe h (e.get t) (e'.get t)):ERel ι e' a :=
 ⟨r.defers,by rw[hn];exact r.size,λt ht=>hv t N ι w _ H (r.get t (by rw[<- hn];exact ht))⟩
theorem uh{c:Code}{Q:Exit->Act->World->Prop}:∀{n m:Nat}{a:Act}{w:World},n<=m->Qi P c Q n a w->Qi P c Q m a w
 |0,m,a,w,_,hr=>by cases hr
 |n+1,0,a,w,h,_=>by omega
 |n+1,m+1,a,w,h,hr=>by
  rw[rounds_succ] at hr ⊢;refine wp_mono hr ?_;intro x a' w' q
  cases x <;> first|exact q|exact uh (by omega) q
theorem CodeM.loop{c:Code}{nn:Nat}{σ:Type}(I:σ->Heap->Prop)(env:σ->List (Nat×Value))(μ:σ->Nat){e:Env}{h:Heap}{K:X->Env->Heap->Prop}(hn:e.n=nn)
  (start:∃s,I s h/\gG h (env s) e)
  (round:∀s base h,I s h->eI (dJ (env s)) λt=>CodeM P N c ⟨nn,t,base⟩ h λx e1 h1=>match x with
   |.normal=>∃s',μ s'<μ s/\I s' h1/\gG h1 (env s') e1
   |.exit id=>K (.exit id) e1 h1
   |.ret=>K .ret e1 h1):CodeM P N (.loop c) e h K:=⟨λhM hok=>by
 simp only[codeOk] at hok;rw[hn] at hok
 have key:∀(m:Nat) (s:σ) (e:Env) (h:Heap),μ s=m->e.n=nn->I s h->gG h (env s) e->∀ι w a,HRel N ι h w->ERel ι e a->Qi P c (xE N ι nn h w K) (m+1) a w:=by
  intro m
  induction m using Nat.strongRecOn with
  |_ m ih =>
   intro s e h hm he hI hh ι w a H r;have c1:=((bQ _ _).1 (round s e.get h hI));have r2:ERel ι (⟨nn,dJ (env s),e.get⟩:Env) a:=r.Aw H he.symm (λt=>by have:=ln hh t;rw[he] at this;exact this);rw[rounds_succ];refine wp_mono (c1.spec hM hok ι w a H r2) ?_;rintro x' a' w' ⟨y,e1,h1,rfl,k,hn1,hs,ι',r',H',S⟩
   cases y with
   |normal =>
    obtain⟨s',hlt,hI',hh'⟩:=k;have:=ih (μ s') (hm ▸ hlt) s' e1 h1 rfl hn1 hI' hh' ι' w' a' H' r';exact uh (by omega) (oS (λx a w q=>xE.trans q hs S) _ _ _ this)
   |exit id=>exact⟨.exit id,e1,h1,rfl,k,hn1,hs,ι',r',H',S⟩
   |ret=>exact⟨.ret,e1,h1,rfl,k,hn1,hs,ι',r',H',S⟩
 obtain⟨s,hI,hh⟩:=start;intro ι w a H r;rw[hn]
 exact wp_loop_rounds _ (key (μ s) s e h rfl hn hI hh ι w a H r)⟩
theorem CodeM.join{a b:Code}{nn:Nat}{σ:Type}(I:σ->Heap->Prop)(env:σ->List (Nat×Value)){e:Env}{h:Heap}{K:X->Env->Heap->Prop}(hn:e.n=nn)
  (hfirst:CodeM P N a e h λx e1 h1=>match x with
   |.normal=>∃s,I s h1/\gG h1 (env s) e1
   |.exit id=>K (.exit id) e1 h1
   |.ret=>K .ret e1 h1)
  (hrest:∀s base h1,I s h1->eI (dJ (env s)) λt=>CodeM P N b ⟨nn,t,base⟩ h1 K):CodeM P N (.seq a b) e h K:=⟨λhM hok ι w ac H r=>by
 simp only[codeOk,L9] at hok;refine wp_seq (wp_mono (hfirst.spec hM hok.1 ι w ac H r) ?_);rintro x' a' w' ⟨y,e1,h1,rfl,k,hn1,hs,ι',r',H',S⟩
 cases y with
 |normal =>
  obtain⟨s,hI,hh⟩:=k;have he:e1.n=nn:=hn1.trans hn;have r2:ERel ι' (⟨nn,dJ (env s),e1.get⟩:Env) a':=r'.Aw H' he.symm (λt=>by have:=ln hh t;rw[he] at this;exact this);refine wp_mono (((bQ _ _).1 (hrest s e1.get h1 hI)).spec hM (by show codeOk N nn b=true;rw[<- hn];exact hok.2) ι' w' a' H' r2) ?_;intro x2 a2 w2 q;rw[hn];exact xE.trans (n:=nn) q hs S
 |exit id=>exact⟨.exit id,e1,h1,rfl,k,hn1,hs,ι',r',H',S⟩
 |ret=>exact⟨.ret,e1,h1,rfl,k,hn1,hs,ι',r',H',S⟩⟩
theorem Step.K4{ι:Inj}{h:Heap}{w:World}(H:HRel N ι h w):Step N ι h w ι h w.drew:=Step.same H rfl ⟨rfl,rfl,rfl,λ_=>NB _⟩
theorem CodeM.next{id:Nat}{rest:List Oper}{x:Operand}{d1:Tmp}{ty:TypeId}{pos:String}{af:Array Edge}{e:Env}{h:Heap}{K:X->Env->Heap->Prop}{g0 g n:Nat}{seen:List Nat}{es:List (Value×Value)}
  (hx:e.eval x=.pointer (some ⟨g0,0,none⟩)) (h0:h.get g0=some (.rng g seen n)) (hg:h.get g=some (.map es)) (hn:es.length=n)
  (done:(∀i,i<n->i∈seen)->RegS P N ⟨{ dst:=some d1,op:=.next x false,type:=ty,pos:=pos,after:=af,guard:=none }::rest⟩ rest 1 (e.put (some d1) (.tuple #[.bool false])) h (K .normal))
  (step:∀i k v,es[i]?=some (k,v)->i ∉ seen->RegS P N ⟨{ dst:=some d1,op:=.next x false,type:=ty,pos:=pos,after:=af,guard:=none }::rest⟩ rest 1 (e.put (some d1) (.tuple #[.bool true,k,v])) (h.upd g0 (.rng g (seen++[i]) n)) (K .normal)) :
  CodeM P N (.region id ⟨{ dst:=some d1,op:=.next x false,type:=ty,pos:=pos,after:=af,guard:=none }::rest⟩ false) e h K:=⟨λhM hok ι w a H r=>by
 simp only[codeOk,L9] at hok;have hok1:=hok.1;have hoko:=(Md.1 hok1) _ (List.mem_cons_self ..);have hx':=fT H r hoko x (by simp[Op.operands]);rw[hx] at hx';generalize ex:a.eval x=y at hx'
 cases hx'
 rename_i l0 hl0;obtain⟨lg,q1,q2,q3⟩:=H.obj g0 l0 _ hl0 h0;obtain⟨E,c,k1,k2,k3,k4,k5,k6⟩:=H.obj g lg _ q1 hg
 have hb0:l0.base+0=0:=by omega
 have hc:c=n:=by omega
 refine wp_region ?_
 show wpOps P _ _ (List.range (rest.length+1)) a w
 rw[OS,Q5,wpOps_cons];unfold wpOp;simp only[MR,My];have hw:∀f,Region.wanted { dst:=some d1,op:=.next x false,type:=ty,pos:=pos,after:=af,guard:=none } f=true:=λ_=>rfl;rw[if_pos (hw _)]
 have tl:∀j,rest[j]?=(⟨{ dst:=some d1,op:=.next x false,type:=ty,pos:=pos,after:=af,guard:=none }::rest⟩:Array Oper)[0+1+j]?:=λj=>by simp[OQ]
 have go:∀(v v':Value) (h1:Heap) (w1:World),RegS P N ⟨{ dst:=some d1,op:=.next x false,type:=ty,pos:=pos,after:=af,guard:=none }::rest⟩ rest 1 (e.put (some d1) v) h1 (K .normal)->VRel ι v v'->HRel N ι h1 w1->Step N ι h w ι h1 w1 ->
   wpOps P ⟨{ dst:=some d1,op:=.next x false,type:=ty,pos:=pos,after:=af,guard:=none }::rest⟩ (xE N ι e.n h w K) (List.range' (0+1) rest.length) (a.put (some d1) v') w1:=by
  intro v v' h1 w1 hr rv H1 S1;obtain⟨e2,h2,hd,hk⟩:=hr.spec;refine yo rest (0+1) tl ι _ _ h1 w1 e2 h2 (by rw[Env.er];exact hok1) hd H1 ((r.mono S1.ext).put (jU hoko) rv) λι' a' w' r1 r2 r3=>?_;exact⟨.normal,e2,h2,rfl,hk,by rw[hd.n,Env.er],Mf S1.size hd.size,ι',r1,r2,S1.trans r3⟩
 refine .inl ?_;unfold Oper.wp
 have hex:∀(r0:Result Value),(Instr.next (.pointer (some ⟨l0.blk,0,none⟩)) false ty).run P w=r0->(execOp a.eval { dst:=some d1,op:=.next x false,type:=ty,pos:=pos,after:=af,guard:=none }).run P w=r0.andThen λv w=>.ok (.value v) w:=λr0 q=>by
  simp only[execOp,ex,hb0];rw[Sem.run_bind,q];rfl
 rcases run_next_at (P:=P) w ty l0.blk lg.blk n n ⟨seen⟩ E c q2 k1 (λm hm=>by
   obtain⟨i,hi⟩:=M1 hm
   have hi':E[i]?=some m:=by simpa using hi
   rw[k6 i m hi'];have:=(L3.1 hi').1
   omega) (LV _) with⟨hz,hr⟩|⟨m,hm,w1,hw1,hr⟩
 .rw[hex _ hr];refine go _ _ h w (done λi hi=>?_) (VRel.vM _) H (Step.refl w H.dom);refine Classical.byContradiction λhns=>?_
  have hiE:i<E.size:=by omega
  have hb:=k6 i E[i] (Me hiE)
  have hmem:E[i]∈leftOf E ⟨seen⟩:=by
   unfold leftOf;refine R4.2 ⟨PT hiE,?_⟩;rw[hb];simp[hns]
  have:=Array.size_pos_of_mem hmem;omega
 .rw[hex _ hr]
  have hmE:m∈E/\(!(⟨seen⟩:Array Nat).contains m.born)=true:=by
   have:m∈leftOf E ⟨seen⟩:=by simpa using hm
   unfold leftOf at this;exact R4.1 this
  obtain⟨i,hi⟩:=Array.getElem?_of_mem hmE.1;have hb:=k6 i m hi
  have hi2:i<es.length:=by have:=(L3.1 hi).1;omega
  obtain⟨m',m1,m2,m3⟩:=k4 i es[i].1 es[i].2 (LU hi2);rw[hi] at m1
  cases m1
  have hns:i ∉ seen:=by
   have:=hmE.2;rw[hb] at this;simpa using this
  have H1:HRel N ι h w1:=by
   rcases hw1 with q|q
   .rw[q];exact H
   .rw[q];exact H.same rfl
  have S1:Step N ι h w ι h w1:=by
   rcases hw1 with q|q
   .rw[q];exact Step.refl w H.dom
   .rw[q];exact Step.K4 H
  have hlt:l0.blk<w1.heap.size:=H1.blk g0 l0 hl0;obtain⟨H2,S2⟩:=HRel.write H1 hl0 ⟨_,h0,rfl⟩ (o':=.rng g (seen++[i]) n) (w':=setBlock w1 l0.blk (.mapIter (some lg.blk) n ((⟨seen⟩:Array Nat).push m.born) c)) (by simp[setBlock]) (λb hb=>by simp[setBlock,NU hb]) ⟨lg,q1,by simp[setBlock,hlt,hb,hc],q3⟩ ⟨rfl,rfl,rfl,λ_=>LV _⟩;refine go _ _ _ _ (step i es[i].1 es[i].2 (LU hi2) hns) ?_ H2 (S1.trans S2)
  exact .tuple _ _ rfl (ba.cons (VRel.bool true) (ba.cons m2 (ba.cons m3 (ba.nil ι)))).array.2⟩
theorem Db{ι:Inj}{n:Nat}{vs vs':Array Value}(r:bB ι vs vs')(hs:vs.size<=n):ERel ι (cM n vs) { tmps:=vs'++Nh (n-vs'.size) undef,defers:=[] }:=by
 refine⟨rfl,?_,λt _=>?_⟩
 .rw[iS];simp;have:=r.1;omega
 .rw[oA];have q:=r.2 t;by_cases ht:t<vs'.size
  .have:(vs'++Nh (n-vs'.size) undef).getD t undef=vs'.getD t undef:=by
    rw[LW,LW,OI ht]
   rw[this];exact q
  .have e1:(vs'++Nh (n-vs'.size) undef).getD t undef=undef:=by
    rw[LW,Po (by omega),NR]
    split <;> rfl
   have e2:vs.getD t undef=undef:=by
    rw[LW,Ny (by have:=r.1;omega)];rfl
   rw[e1,e2];exact VRel.nothing ι
theorem ua{ι ι':Inj}{h h1:Heap}{w w':World}{v v' r:Value}(H:HRel N ι h w)(H':HRel N ι' h1 w')(S:Step N ι h w ι' h1 w')(r':VRel ι' v v')(e:Ext h h1)(hr:aq r)(hv:∀h2,Frozen h.size h1 h2->VLe h2 v r) :
  ∃ι'',VRel ι'' r v'/\HRel N ι'' h w'/\Step N ι h w ι'' h w':=by
 obtain⟨ι2,h2,H2,F,fs⟩:=H'.sZ h.size;have hx:Ext h h2:=F.ext e.1 e (LV _);have rr:VRel ι2 r v':=hv h2 F N ι2 w' v' H2 (r'.mono fs.le);have core:=sX H H2 (S.ext.trans fs.le) S.wsize S.frame S.out (λb C q1 q2=>?_) hx
 .exact⟨ι.with ι2,hr ι2 _ v' (λ_ _ q=>q) rr,core⟩
 .cases q3:ι'.fz b with
  |some C'=>exact S.fzown b C' q3 q2
  |none =>
   obtain⟨g0,l0,h1,h2⟩:=fs.own b C q1 q3
   cases q4:ι g0 with
   |some l1 =>
    have:=S.ext.at_ g0 l1 q4;rw[h1] at this;cases this;exact .inr ⟨g0,l0,q4,h2⟩
   |none =>
    rcases S.own g0 l0 h1 q4 with k1|⟨g1,l1,k1,_,k2⟩
    .exact .inl (h2 ▸ k1)
    .exact .inr ⟨g1,l1,k1,k2.trans h2⟩
theorem fnM(hM:P.follows .mixedOrders=true){f:FuncId}{fn:Func}{c:Code}(hf:P.funcs[f]?=some fn)(hb:fn.body=some c)(ho:jO N fn=true){vs:Array Value}(hs:vs.size<=fn.ntmps){h:Heap}{B:List AObj}(hB:aH B h){r:Value}(hr:aq r)
  (hk:Own B h [] h->CodeM P N c (cM fn.ntmps vs) h λx e1 h1=>match x with
   |.exit _=>False
   |_=>mu P e1 h1 fn.results.toList λvs=>Ext h h1/\∀h2,Frozen h.size h1 h2->VLe h2 (sQ vs) r):al P N f vs h r h:=by
 obtain⟨ok1,ok2⟩:=nw hf hb ho;refine⟨LV _,λι w vs' H ra=>.inl ⟨ok1,calls_of_wp hf hb ?_⟩⟩;have hr0:ERel ι (cM fn.ntmps vs) { tmps:=vs'++Nh (fn.ntmps-vs'.size) undef,defers:=[] }:=Db ra hs;refine wp_mono ((hk (Own.start hB)).spec hM (by rw[iS];exact ok2) ι w _ H hr0) ?_;rintro x a' w' ⟨y,e1,h1,rfl,k,hn,hsz,ι',r',H',S⟩
 cases y with
 |exit id=>exact k.elim
 |normal =>
  obtain⟨v,hv,hx,hq⟩:=iH (K:=λv=>Ext h h1/\∀h2,Frozen h.size h1 h2->VLe h2 v r) k;obtain⟨v',p1,p2⟩:=eH H' r' hv;obtain⟨ι'',c1,c2,c3⟩:=ua H H' S p2 hx hr hq;exact⟨r'.defers,v',p1,ι'',v',rfl,c1,c2,c3⟩
 |ret =>
  obtain⟨v,hv,hx,hq⟩:=iH (K:=λv=>Ext h h1/\∀h2,Frozen h.size h1 h2->VLe h2 v r) k;obtain⟨v',p1,p2⟩:=eH H' r' hv;obtain⟨ι'',c1,c2,c3⟩:=ua H H' S p2 hx hr hq;exact⟨r'.defers,v',p1,ι'',v',rfl,c1,c2,c3⟩
end
end Go.Abs

namespace Go.Abs
def II{α S:Type}(es:List α)(body:α->S->(S->Prop)->Prop)(k:S->Prop):Nat->List Nat->S->Prop
 |0,_,_=>False
 |n+1,seen,s=>((∀i,i<es.length->i∈seen)->k s)/\∀i x,es[i]?=some x->i ∉ seen->body x s (II es body k n (seen++[i]))
def Hv{α S:Type}(es:List α)(body:α->S->(S->Prop)->Prop)(s:S)(k:S->Prop):Prop:=∃n,II es body k n [] s
theorem uf:∀(n:Nat) (l:List Nat),l.Nodup->(∀i∈l,i<n)->l.length<=n
 |0,l,_,h=>by
  cases l with
  |nil=>simp
  |cons a l=>exact absurd (h a (.head _)) (Mu _)
 |n+1,l,nd,h=>by
  have h1:=uf n (l.erase n) (nd.erase n) (λi hi=>by
   have h2:=h i (List.mem_of_mem_erase hi)
   have h3:i≠n:=λe=>by subst e;exact (List.Nodup.not_mem_erase nd) hi
   omega)
  rw[List.length_erase] at h1
  split at h1 <;> omega
theorem qN{α S:Type}{es:List α}{body:α->S->(S->Prop)->Prop}{s0:S}{k:S->Prop}(I:List Nat->S->Prop)(h0:I [] s0)(hk:∀seen s,I seen s->seen.Nodup->(∀i,i∈seen↔i<es.length)->k s)
  (step:∀seen s i x (next:S->Prop),I seen s->es[i]?=some x->i ∉ seen->(∀s',I (seen++[i]) s'->next s')->body x s next):Hv es body s0 k:=by
 have key:∀n seen s,I seen s->seen.Nodup->(∀i∈seen,i<es.length)->es.length<n+seen.length->II es body k n seen s:=by
  intro n
  induction n with
  |zero =>
   intro seen s _ nd hb hl;have:=uf es.length seen nd hb;omega
  |succ n ih =>
   intro seen s hI nd hb hl;refine⟨λhall=>hk seen s hI nd λi=>⟨hb i,hall i⟩,λi x hx hi=>step seen s i x _ hI hx hi λs' hs'=>?_⟩;have hlt:i<es.length:=(LX.1 hx).1;refine ih (seen++[i]) s' hs' ?_ (λj hj=>?_) (by simp;omega)
   .rw[Oy];exact⟨nd,by simp,λa ha b hb'=>by rw[Mm.1 hb'];exact λe=>hi (e ▸ ha)⟩
   .rcases MB.1 hj with hj|hj
    .exact hb j hj
    .rw[Mm.1 hj];exact hlt
 exact⟨es.length+1,key _ [] s0 h0 .nil (λi hi=>by cases hi) (by simp)⟩
section
variable {P:Program} {N:Nat}
def DU(P:Program)(N:Nat)(c:Code)(e:Env)(h:Heap)(K:X->Env->Heap->Prop):Prop :=
 match c with
 |.skip=>K .normal e h
 |.label _=>K .normal e h
 |.exit id=>K (.exit id) e h
 |.ret=>K .ret e h
 |.region _ ops d=>match ops,d with
  |⟨l⟩,false=>RegS P N ⟨l⟩ l 0 e h (K .normal)
  |⟨l⟩,true=>RegXS P N ⟨l⟩ h l 0 e h (K .normal)
 |.seq a b=>CodeM P N a e h λx e h=>match x with
  |.normal=>CodeM P N b e h K
  |.exit id=>K (.exit id) e h
  |.ret=>K .ret e h
 |.cond c a b=>∃t,e.eval c=.bool t/\(t=true->CodeM P N a e h K)/\(t=false->CodeM P N b e h K)
 |.block id c=>CodeM P N c e h λx e h=>match x with
  |.normal=>K .normal e h
  |.exit id'=>match NZ id' id with
   |true=>K .normal e h
   |false=>K (.exit id') e h
  |.ret=>K .ret e h
 |_=>False
def Jl:Code->Bool
 |.loop _=>false
 |_=>true
theorem Ms{c:Code}{e:Env}{h:Heap}{K:X->Env->Heap->Prop}(_nl:Jl c=true)(hk:DU P N c e h K):CodeM P N c e h K:=by
 cases c with
 |skip=>exact CodeM.ofS (CodeS.step hk)
 |label l=>exact CodeM.ofS (CodeS.step hk)
 |exit id=>exact CodeM.ofS (CodeS.step hk)
 |ret=>exact CodeM.ofS (CodeS.step hk)
 |region id ops d=>exact CodeM.ofS (CodeS.step hk)
 |seq a b=>exact CodeM.seq hk
 |cond c a b=>exact CodeM.cond hk
 |block id c=>exact CodeM.block hk
 |loop c=>exact hk.elim
 |scope c=>exact hk.elim
 |goto l=>exact hk.elim
 |rangeFunc f ps a b=>exact hk.elim
 |refuse w=>exact hk.elim
theorem gXM{A B:Prop}(a:A)(h:A->B:=by intro h;(conv=>whnf);(repeat((first | (refine Ms (by exact rfl) ?_) | apply Cs|apply Hs|apply Hx|apply Hf|apply Hk | (refine rd ?_) | (refine⟨.inl rfl,?_⟩) | (refine⟨.inr rfl,?_⟩) | (refine lm ?_) | (refine ll ?_) | (refine lg ?_) | (refine ls ?_) | (refine ldO O.i0 ?_) | (refine ldO O.i1 ?_) | (refine ldO O.i2 ?_) | (refine⟨rfl,?_⟩) | (refine tS rfl rfl ?_));(conv=>whnf)));exact h):B:=h a
theorem mpM(nn:Nat)(ks:List Nat){α S σ:Type}(π:σ->S){es:List α}{ent:α->Value×Value}{body:α->S->(S->Prop)->Prop}{kk:S->Prop}(I:σ->List Nat->Heap->Prop)(env:σ->List (Nat×Value)){id:Nat}{rest:List Oper}{x:Operand}{d1:Tmp}{ty:TypeId}{pos:String}{af:Array Edge}{c2:Code}{e:Env}{h:Heap}{K:X->Env->Heap->Prop}{g0 g n:Nat}
  (s0:σ) (hm:Hv es body (π s0) kk) (start:I s0 [] h)
  (hI0:∀s seen h,I s seen h->h.get g0=some (.rng g seen n)) (hIg:∀s seen h,I s seen h->h.get g=some (.map (es.map ent))) (hIu:∀s seen i h,I s seen h->I s (seen++[i]) (h.upd g0 (.rng g (seen++[i]) n)))
  (hdone:∀s seen base h,kk (π s)->I s seen h->xe e ks λl=>eI (dJ (l++env s)) λt=>RegS P N ⟨{ dst:=some d1,op:=.next x false,type:=ty,pos:=pos,after:=af,guard:=none }::rest⟩ rest 1 ((⟨nn,t,base⟩:Env).put (some d1) (.tuple #[.bool false])) h λe1 h1=>CodeM P N c2 e1 h1 λx e1 h1=>match x with
   |.normal=>False
   |.exit id=>K (.exit id) e1 h1
   |.ret=>K .ret e1 h1)
  (hstep:∀s seen i y next base h,es[i]?=some y->body y (π s) next->I s (seen++[i]) h->xe e ks λl=>eI (dJ (l++env s)) λt=>RegS P N ⟨{ dst:=some d1,op:=.next x false,type:=ty,pos:=pos,after:=af,guard:=none }::rest⟩ rest 1 ((⟨nn,t,base⟩:Env).put (some d1) (.tuple #[.bool true,(ent y).1,(ent y).2])) h λe1 h1=>CodeM P N c2 e1 h1 λx e1 h1=>match x with
   |.normal=>∃s',next (π s')/\I s' (seen++[i]) h1/\gG h1 (keep e ks++env s') e1
   |.exit id=>K (.exit id) e1 h1
   |.ret=>K .ret e1 h1)
  (hx:∀s base,(⟨nn,dJ (keep e ks++env s),base⟩:Env).eval x=.pointer (some ⟨g0,0,none⟩):=by exact λ_ _=>rfl)
  (hes:es.length=n:=by exact rfl)
  (hs:gG h (keep e ks++env s0) e:=by (repeat(first|exact trivial|refine⟨VLe.refl _ _,?_⟩)))
  (hn:e.n=nn:=by exact rfl):CodeM P N (.loop (.seq (.region id ⟨{ dst:=some d1,op:=.next x false,type:=ty,pos:=pos,after:=af,guard:=none }::rest⟩ false) c2)) e h K:=by
 obtain⟨m,hm⟩:=hm;refine CodeM.loop (σ:=Nat×List Nat×σ) (λq h=>II es body kk q.1 q.2.1 (π q.2.2)/\I q.2.2 q.2.1 h) (λq=>keep e ks++env q.2.2) (λq=>q.1) hn ⟨(m,[],s0),⟨hm,start⟩,hs⟩ ?_;rintro⟨m,seen,s⟩ base h ⟨hm,hI⟩
 cases m with
 |zero=>exact False.elim hm
 |succ m =>
  dsimp only at hm hI ⊢;obtain⟨md,ms⟩:=hm;rw[bQ];refine CodeM.seq (CodeM.next (hx s base) (hI0 s seen h hI) (hIg s seen h hI) (by rw[LZ];exact hes) (λhall=>?_) (λi k v he hi=>?_))
  .obtain⟨e2,h2,hr,q⟩:=((bQ _ _).1 (mH.1 (hdone s seen base h (md λi hi=>hall i (by omega)) hI))).spec;refine⟨e2,h2,hr,q.mono ?_⟩;intro x e1 h1 k
   cases x with
   |normal=>exact k.elim
   |exit id=>exact k
   |ret=>exact k
  .rw[L7] at he
   cases hy:es[i]? with
   |none=>rw[hy] at he;cases he
   |some y =>
    rw[hy] at he;simp only[MI,LR] at he
    have e1:k=(ent y).1:=by rw[he]
    have e2:v=(ent y).2:=by rw[he]
    rw[e1,e2];obtain⟨e2,h2,hr,q⟩:=((bQ _ _).1 (mH.1 (hstep s seen i y _ base _ hy (ms i y hy hi) (hIu s seen i h hI)))).spec;refine⟨e2,h2,hr,q.mono ?_⟩;intro x e1 h1 k
    cases x with
    |normal =>
     obtain⟨s',k1,k2,k3⟩:=k;exact⟨(m,seen++[i],s'),ML m,⟨k1,k2⟩,k3⟩
    |exit id=>exact k
    |ret=>exact k
end
section
variable {P:Program} {N:Nat} {B:List AObj} {h0 h:Heap} {L:List Slot} {ρ:Operand->Value} {d:Option Tmp} {ty:TypeId} {pos:String} {af:Array Edge} {gd:Option (Nat×Bool)}
variable {κ ν:Type} {ek:κ->Value} {ev:ν->Value}
theorem KF{α:Type}{enc:α->Value}{z:α}{h:Heap}(n:Nat)(h1:cl (enc z)=[enc z])(le:VLe h (.slice none 0 0) (enc z)):LLe h (ah ((LY n ()).map λ_=>Pu none 0 0)) (ah ((LY n z).map enc)):=by
 have e1:∀v:Value,cl v=[v]->ah (LY n v)=LY n v:=λv hv=>by
  induction n with
  |zero=>rfl
  |succ n ih=>rw[Qr,show ah (v::LY n v)=cl v++ah (LY n v) from rfl,hv,ih];rfl
 rw[OK,OK,e1 _ rfl,e1 _ h1];refine⟨by simp,λi=>?_⟩;simp only[List.getD,Mt];split
 .exact le
 .exact VLe.refl _ _
theorem Ll{α:Type}(h:Heap)(n s:Nat)(enc:α->Value):LLe h (ah ((LY n ()).map λ_=>Pu none 0 0)) (ah ((LY n ([]:List α)).map (ae s enc))):=KF n rfl (VLe.nil _ _)
theorem Own.JN{t kt et:TypeId}{x:Operand}{g:Nat}{m:List (κ×ν)}{K:Value->Heap->Prop}(O:Own B h0 L h)(hg:h.get g=some (.map (aY ek ev m)))(k:∀g0 h1,Own B h0 ((some g0,.rng g [] m.length)::L) h1->K (.pointer (some ⟨g0,0,none⟩)) h1)
  (hx:ρ x=.map (some g):=by exact rfl) (hu:P.underlying t=some (.map kt et):=by exact rfl):NewG P ρ { dst:=d,op:=.range t x,type:=ty,pos:=pos,after:=af,guard:=gd } h K:=by
 refine .rng (ob:=.rng g [] m.length) ?_ λh1 n=>k h.size h1 (O.push n);unfold wK;simp only[hu,hx,hg];simp[aY]
theorem Gq{x:Operand}{g0 g n i:Nat}{seen:List Nat}{m:List (κ×ν)}{y:κ×ν}{K:Value->Prop}(O:Own B h0 L h)(h1:(some g0,.rng g (seen++[i]) n)∈L)(h2:h.get g=some (.map (aY ek ev m)))(hn:m.length=n)(hy:m[i]?=some y)(k:K (.tuple #[ek y.1,ev y.2]))
  (hx:ρ x=.pointer (some ⟨g0,0,none⟩):=by exact rfl):∃v,(aC P ρ { dst:=d,op:=.entry x,type:=ty,pos:=pos,after:=af,guard:=gd }=some v\/qF P ρ { dst:=d,op:=.entry x,type:=ty,pos:=pos,after:=af,guard:=gd } h=some v)/\K v:=by
 refine⟨_,.inr ?_,k⟩;unfold qF
 have e1:(aY ek ev m)[i]?=some (ek y.1,ev y.2):=by unfold aY;rw[L7,hy];rfl
 have e2:(aY ek ev m).length=n:=by rw[<- hn];simp[aY]
 simp only[hx,O.at h1,h2,List.getLast?_append,List.getLast?_singleton,Option.some_or,e1,e2,if_true]
end
theorem pE{P:Program}{e:Env}{h:Heap}:∀{l:List ResultVar}{K K':List Value->Prop},(∀vs,K vs->K' vs)->mu P e h l K->mu P e h l K'
 |[],_,_,m,hk=>m _ hk
 |.tmp t::r,K,K',m,hk=>by
  unfold mu at hk ⊢;split at hk
  .rename_i hb;rw[nA] at hk ⊢;exact pE (λvs q=>m _ q) hk
  .exact hk.elim
 |.cell a t::r,K,K',m,hk=>by
  unfold mu at hk ⊢;obtain⟨v,hv,hk⟩:=hk;exact⟨v,hv,pE (λvs q=>m _ q) hk⟩
end Go.Abs
