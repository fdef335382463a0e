/- Parts of the proof. -/
import Derived.Test.YtglgdkineobbeaaGreatDoorTn45
open Array renaming replicate->Nh
open Go.World renaming alloc_heap_new->Rt,putObj_heap_other->N9,putObj_heap_same->Re
namespace Go.Abs
theorem Step.wrap{N:Nat}{ι ι':Inj}{h h':Heap}{w0 w w' w1:World}(s:Step N ι h w ι' h' w')(hs:w0.heap.size<=w.heap.size)(hs':w'.heap.size<=w1.heap.size)
  (fr:∀b,b<w0.heap.size->(∀g l,ι g=some l->h.mut g->l.blk≠b)->w1.heap[b]?=w0.heap[b]?)
  (out:w.output=w0.output/\w.os=w0.os/\w.tape=w0.tape/\w.drawn=w0.drawn) (out':w1.output=w'.output/\w1.os=w'.os/\w1.tape=w'.tape/\w1.drawn=w'.drawn):Step N ι h w0 ι' h' w1 where
 dom:=s.dom
 size:=s.size
 ext:=s.ext
 fresh:=s.fresh
 own:=λg l e e'=>(s.own g l e e').imp (λq=>Mf hs q) id
 keep:=s.keep
 keepl:=s.keepl
 wsize:=Mf hs (Mf s.wsize hs')
 frame:=fr
 others:=s.others
 out:=⟨out'.1.trans (s.out.1.trans out.1),out'.2.1.trans (s.out.2.1.trans out.2.1),out'.2.2.1.trans (s.out.2.2.1.trans out.2.2.1),λz=>by
  rw[out'.2.2.2,<- out.2.2.2];exact s.out.2.2.2 z⟩
 fzown:=λb C e e'=>(s.fzown b C e e').imp (λq=>Mf hs q) id
structure Between (L D:Nat) (q:Loop) (e:Env) (ι:Inj) (w:World):Prop where
 loop:Side L (.loop q) ι w
 defs:Side D (.deferred (some [])) ι w
 env:ERel ι e { tmps:=q.tmps,defers:=[] }
theorem ny{N L D:Nat}{q:Loop}{e:Env}:Kept N (Between L D q e):=λ_ _ _ _ _ _ S b=>⟨b.loop.step S,b.defs.step S,b.env.mono S.ext⟩
theorem yx{N D:Nat}{x:Obj}:Kept N (Side D x):=λ_ _ _ _ _ _ S b=>b.step S
theorem mU{N:Nat}:Kept N (λ_ _=>True):=λ_ _ _ _ _ _ _ _=>trivial
section
variable {P:Program} {N:Nat}
theorem wC{ι:Inj}{vs vs':Array Value}{nt:Nat}(hs:vs.size<=nt)(r:bB ι vs vs'):ERel ι (cM nt vs) { tmps:=vs'++Nh (nt-vs'.size) undef,defers:=[] }:=by
 refine⟨rfl,?_,λt _=>?_⟩
 .rw[iS];simp;have:=r.1;omega
 .rw[oA];have q:=r.2 t;by_cases ht:t<vs'.size
  .have:(vs'++Nh (nt-vs'.size) undef).getD t undef=vs'.getD t undef:=by
    rw[LW,LW,OI ht]
   rw[this];exact q
  .have e1:(vs'++Nh (nt-vs'.size) undef).getD t undef=undef:=by
    rw[LW,Po (by omega),NR]
    split <;> rfl
   have e2:vs.getD t undef=undef:=by
    rw[LW,Ny (by have:=r.1;omega)];rfl
   rw[e1,e2];exact VRel.nothing ι
def DJ(P:Program)(N:Nat)(I:Inj->World->Prop)(f:FuncId)(vs:Array Value)(h h':Heap):Prop :=
 ∀n ι w vs',I ι w->HRel N ι h w->bB ι vs vs'->CallsIn (rF none) n P f vs' w λen w'=>∃ι' v',en=.returned v'/\HRel N ι' h' w'/\Step N ι h w ι' h' w'
theorem Lj{I:Inj->World->Prop}{f:FuncId}{fn:Func}{c:Code}(hf:P.funcs[f]?=some fn)(hb:fn.body=some c)(hr:fn.results = #[]){vs:Array Value}(hs:vs.size<=fn.ntmps){h:Heap}{Q:Heap->Prop}
  (hk:CodeY P N none I [] c (cM fn.ntmps vs) h λx _ h1=>match x with
   |.exit _=>False
   |_=>Q h1):∃h',DJ P N I f vs h h'/\Q h':=by
 obtain⟨x,e1,h1,c1,hk⟩:=hk.spec
 have res:∀(tmps:Array Value) (w:World),(results fn tmps).run P w=.ok (.tuple #[]) w:=λtmps w=>by
  rw[xd,hr];simp
 cases x with
 |exit id=>exact hk.elim
 |normal =>
  refine⟨h1,λn ι w vs' hi H r=>callsIn_of_wp hf hb trivial (wpIn_mono (c1.2 n ι w _ hi H (ERelD.plain (wC hs r))) ?_),hk⟩;rintro y a' w' ⟨rfl,ι',rr,H',S⟩;exact⟨rr.defers,_,res _ _,ι',_,rfl,H',S⟩
 |ret =>
  refine⟨h1,λn ι w vs' hi H r=>callsIn_of_wp hf hb trivial (wpIn_mono (c1.2 n ι w _ hi H (ERelD.plain (wC hs r))) ?_),hk⟩;rintro y a' w' ⟨rfl,ι',rr,H',S⟩;exact⟨rr.defers,_,res _ _,ι',_,rfl,H',S⟩
def JL(e:Env)(ps:List Tmp)(us:List Value):Env:=(ps.zip us).foldl (λe (p,u)=>e.set p u) e
theorem KP(e:Env)(p:Tmp)(u:Value):JL e [p] [u]=e.set p u:=rfl
theorem HE{ι:Inj}:∀(ps:List Tmp) (us us':List Value) {e:Env}{tmps:Array Value},(∀p∈ps,p<e.n)->ba ι us us'->ERelD [] ι e { tmps:=tmps,defers:=[] } ->
  ERelD [] ι (JL e ps us) { tmps:=(ps.zip us').foldl (λtmps (t,a)=>tmps.setIfInBounds t a) tmps,defers:=[] }
 |[],_,_,_,_,_,_,r=>r
 |p::ps,[],[],_,_,_,_,r=>r
 |p::ps,[],u'::us',_,_,_,q,_=>absurd q.1 (by simp)
 |p::ps,u::us,[],_,_,_,q,_=>absurd q.1 (by simp)
 |p::ps,u::us,u'::us',e,tmps,hp,q,r=>by
  have q0:VRel ι u u':=by simpa using q.2 0
  have q1:ba ι us us':=⟨by simpa using q.1,λi=>by simpa using q.2 (i+1)⟩;exact HE ps us us' (e:=e.set p u) (tmps:=tmps.setIfInBounds p u') (λp' m=>hp p' (.tail _ m)) q1 (r.put (t:=some p) (λi hi=>by cases hi;exact hp p (.head _)) q0)
theorem JP{L D:Nat}{q:Loop}{e:Env}{ps:List Tmp}(hq:q.params=⟨ps⟩)(hst:q.state=.ready)(hpe:q.pending=none)(hp:∀p∈ps,p<e.n){us:List Value}(hlen:us.length=ps.length){h:Heap}{Q:Heap->Prop}
  (hk:CodeY P N (some L) (λ_ _=>True) [] q.assign (JL e ps us) h λx e1 h1=>match x with
   |.normal=>CodeY P N (some L) (λ_ _=>True) [] q.body e1 h1 λx _ h2=>match x with
    |.normal=>Q h2
    |_=>False
   |_=>False):∃h',YC P N (Between L D q e) L us h (.bool true) h'/\Q h':=by
 obtain⟨x,e1,h1,c1,hk⟩:=hk.spec
 cases x with
 |exit id=>exact hk.elim
 |ret=>exact hk.elim
 |normal =>
 obtain⟨x,e2,h2,c2,hk⟩:=(show CodeY P N (some L) (λ_ _=>True) [] q.body e1 h1 _ from hk).spec
 cases x with
 |exit id=>exact hk.elim
 |ret=>exact hk.elim
 |normal =>
 refine⟨h2,⟨Mf c1.1.1 c2.1.1,λn ι w us' hi H ru=>?_⟩,hk⟩;have hy:=run_yield (P:=P) (args:=⟨us'⟩) hi.loop.get (by rw[hq];simp[<- ru.1,hlen])
 have ht:(q.params.zip ⟨us'⟩).foldl (λtmps (t,a)=>tmps.setIfInBounds t a) q.tmps=(ps.zip us').foldl (λtmps (t,a)=>tmps.setIfInBounds t a) q.tmps:=by rw[hq];simp
 rw[ht] at hy;refine⟨q.fn,_,q.assign,q.body,hy,roundIn_of_wpIn (F:=rF none) trivial ?_⟩;have r0:=HE ps us us' hp ru (ERelD.plain hi.env);refine wpIn_mono (c1.2 n ι w _ trivial H r0) ?_;rintro y a1 w1 ⟨rfl,ι1,rr1,H1,S1⟩;have b1:=ny (N:=N) _ _ _ _ _ _ S1 hi;obtain⟨w2,hw2⟩:∃w2,w1.putObj L (.loop { q with state:=.busy })=w2:=⟨_,rfl⟩;have hbr:=run_beginRound (P:=P) b1.loop.get hst;rw[hw2] at hbr;refine⟨w2,hbr,?_⟩
 have H2:HRel N ι1 h1 w2:=by rw[<- hw2];exact H1.putObj b1.loop.free _
 have s2:Side L (.loop { q with state:=.busy }) ι1 w2:=⟨b1.loop.free,by rw[<- hw2];exact Re b1.loop.lt⟩;refine wpIn_mono (c2.2 n ι1 w2 a1 trivial H2 rr1) ?_;rintro y a3 w3 ⟨rfl,ι3,rr3,H3,S3⟩;have s3:=s2.step S3
 have hq':({ { q with state:=.busy } with state:=if (none:Option Code).isNone then .ready else .done,pending:=none }:Loop)=q:=by
  cases q
  simp only at hst hpe;subst hst hpe;rfl
 have her:=run_endRound (P:=P) none s3.get;rw[hq'] at her;refine⟨_,_,her,ι3,.bool true,rfl,.bool true,H3.putObj s3.free _,S1.trans (S3.wrap (by rw[<- hw2];simp) (by simp) (λb hb hn=>?_) ?_ ⟨rfl,rfl,rfl,rfl⟩)⟩
 .by_cases e:b=L
  .subst e;rw[Re s3.lt,b1.loop.get]
  .rw[N9 e,S3.frame b (by rw[<- hw2];simpa using hb) hn,<- hw2,N9 e]
 .rw[<- hw2];exact⟨rfl,rfl,rfl,rfl⟩
abbrev Ax(D:Nat):Deferred:={ target:=.collected D,args := #[] }
theorem FV{ι:Inj}{w:World}{a:Act}{e:Env}{h:Heap}{g:Operand}{ps:List Tmp}{assign body:Code}{f:FuncId}{caps:List Value}{n:Nat}{Q:Heap->Prop}(hok:lY N e.n g=true)(hg:e.eval g=.func (.func f) ⟨[]⟩ ⟨caps⟩)(hf:lp P f=true)
  (hk:∀(L D:Nat) (q:Loop),q.params=⟨ps⟩->q.assign=assign->q.body=body->q.state=.ready->q.pending=none->∃h',DJ P N (Between L D q e) f ⟨.func (.yield L) ⟨[]⟩ ⟨[]⟩::caps⟩ h h'/\Q h')
  (H:HRel N ι h w) (rr:ERelD [] ι e a):(Code.rangeFunc g ⟨ps⟩ assign body).wpIn (rF none) n P (λx a' w'=>x=.normal/\∃D ι' h',ERelD [Ax D] ι' e a'/\HRel N ι' h' w'/\Step N ι h w ι' h' w'/\Side D (.deferred (some [])) ι' w'/\w.heap.size<=D/\Q h') a w:=by
 refine wpIn_rangeFunc λfn _=>?_;have q:=rr.rel.eval H hok;rw[hg,Act.oC] at q;generalize ex:a.eval g=z at q
 cases q with
 |func _ _ _ a' caps' s1 s2 g1 g2 =>
 have ea:a' = #[]:=NJ s1.symm;subst ea;obtain⟨rec,hrec⟩:∃rec:Loop,rec={ state:=.ready,pending:=none,fn,tmps:=a.tmps,params:=⟨ps⟩,assign,body,defers:=w.heap.size }:=⟨_,rfl⟩;obtain⟨w1,hw1⟩:∃w1,(w.alloc (.deferred (some []))).alloc (.loop rec)=w1:=⟨_,rfl⟩
 have hL:w1.heap[w.heap.size+1]?=some (.loop rec):=by
  rw[<- hw1];have:=Rt (w.alloc (.deferred (some []))) (.loop rec);rwa [World.size_alloc] at this
 have hD:w1.heap[w.heap.size]?=some (.deferred (some [])):=by
  rw[<- hw1]
  show ((w.alloc (.deferred (some []))).heap.push _)[w.heap.size]?=_
  rw[ME,if_neg (by simp)];exact Rt w _
 have low:∀b,b<w.heap.size->w1.heap[b]?=w.heap[b]?:=λb hb=>by
  rw[<- hw1]
  show ((w.heap.push _).push _)[b]?=_
  rw[ME,if_neg (by simp;omega),ME,if_neg (by omega)]
 have hsz:w.heap.size<=w1.heap.size:=by rw[<- hw1];simp;omega
 have H1:HRel N ι h w1:=by rw[<- hw1];exact (H.GX _).GX _
 have fr:∀b,w.heap.size<=b->Free b ι:=λb hb=>⟨λg l e q=>by have:=H.blk g l e;omega,by
  cases q:ι.fz b with
  |none=>rfl
  |some C =>
   obtain⟨_,_,q⟩:=H.frz b C q;have:=(L3.1 q).1
   omega⟩
 have bt:Between (w.heap.size+1) w.heap.size rec e ι w1:=⟨⟨fr _ (by omega),hL⟩,⟨fr _ (LV _),hD⟩,by rw[hrec];exact rr.rel⟩;obtain⟨h',hit,hQ⟩:=hk (w.heap.size+1) w.heap.size rec (by rw[hrec]) (by rw[hrec]) (by rw[hrec]) (by rw[hrec]) (by rw[hrec]);refine⟨w.heap.size+1,[Ax w.heap.size],w1,{ target:=.fn (.func f) caps',args := #[.func (.yield (w.heap.size+1)) #[] #[]] },w1,f,#[.func (.yield (w.heap.size+1)) #[] #[]]++caps',w1,?_,?_,λ_ _=>trivial,?_,λe=>by simp[rF,Fence.wide] at e,?_⟩
 .rw[<- hw1,hrec];exact run_enterLoop_outer _ _ _ _ _
 .simp only[resolve,ex];simp[Deferred.ofValue,Act.eval]
 .rw[<- fj (P:=P) (w:=w1) hf];rfl
 .have hargs:bB ι ⟨.func (.yield (w.heap.size+1)) ⟨[]⟩ ⟨[]⟩::caps⟩ (#[.func (.yield (w.heap.size+1)) #[] #[]]++caps'):=by
   rw[bB.iK];simp only[OZ];refine ba.cons (.func _ _ _ _ _ rfl rfl (λi=>by simpa using VRel.nothing ι) (λi=>by simpa using VRel.nothing ι)) ?_;exact (bB.list (xs:=⟨caps⟩) ⟨s2,g2⟩)
  refine (hit (n-1) ι w1 _ bt H1 hargs).mono ?_;rintro en w3 ⟨ι3,v3,rfl,H3,S3⟩;have b3:=ny (N:=N) _ _ _ _ _ _ S3 bt;refine⟨_,_,run_endLoop b3.loop.get (by rw[hrec];simp),?_⟩
  have hpn:rec.pending=none:=by rw[hrec]
  rw[hpn]
  have hne:w.heap.size≠w.heap.size+1:=by omega
  refine⟨rfl,w.heap.size,ι3,h',⟨by simp[rr.defers],(rr.rel.mono S3.ext)⟩,H3.putObj b3.loop.free _,S3.wrap hsz (by simp) (λb hb hn=>?_) ?_ ⟨rfl,rfl,rfl,rfl⟩,⟨b3.defs.free,(N9 hne).trans b3.defs.get⟩,LV _,hQ⟩
  .rw[N9 (by omega),S3.frame b (Mr hb hsz) hn,low b hb]
  .rw[<- hw1];exact⟨rfl,rfl,rfl,rfl⟩
structure CodeT (P:Program) (N:Nat) (c:Code) (e:Env) (h:Heap) (K:Env->Heap->Prop):Prop where
 spec:∀n ι w a,HRel N ι h w->ERelD [] ι e a->c.wpIn (rF none) n P (λx a' w'=>(x=.normal\/x=.ret)/\∃D ι' e' h',ERelD [Ax D] ι' e' a'/\HRel N ι' h' w'/\Step N ι h w ι' h' w'/\Side D (.deferred (some [])) ι' w'/\w.heap.size<=D/\e'.n=e.n/\K e' h') a w
theorem CodeT.seq(hM:P.follows .mixedOrders=true){a b:Code}{e:Env}{h:Heap}{K:Env->Heap->Prop}(hok:codeOk N e.n a=true)(hk:CodeS P N a e h λx e1 h1=>match x with
  |.normal=>CodeT P N b e1 h1 K
  |_=>False):CodeT P N (.seq a b) e h K:=by
 obtain⟨x,e1,h1,c1,hk⟩:=hk.spec hM hok
 cases x with
 |exit id=>exact hk.elim
 |ret=>exact hk.elim
 |normal =>
 refine⟨λn ι w a0 H rr=>wpIn_seq (wpIn_mono ((wpIn_wide (n:=n)).2 (c1.2 ι w a0 H rr.toE)) ?_)⟩;rintro y a1 w1 ⟨rfl,ι1,rr1,H1,S1⟩;refine wpIn_mono ((show CodeT P N b e1 h1 K from hk).spec n ι1 w1 a1 H1 (ERelD.plain rr1)) ?_;rintro y a2 w2 ⟨hy,D,ι2,e2,h2,rr2,H2,S2,sd,hle,hn,hk⟩;exact⟨hy,D,ι2,e2,h2,rr2,H2,S1.trans S2,sd,Mf S1.wsize hle,hn.trans c1.1.2,hk⟩
structure RangeT (P:Program) (N:Nat) (g:Operand) (ps:List Tmp) (assign body rest:Code) (e:Env) (h:Heap) (K:Env->Heap->Prop):Prop where
 spec:∃f caps,lY N e.n g=true/\e.eval g=.func (.func f) ⟨[]⟩ ⟨caps⟩/\lp P f=true /\
  ∀(L D:Nat) (q:Loop),q.params=⟨ps⟩->q.assign=assign->q.body=body->q.state=.ready->q.pending=none->∃h',DJ P N (Between L D q e) f ⟨.func (.yield L) ⟨[]⟩ ⟨[]⟩::caps⟩ h h' /\
   ∀D',CodeY P N none (Side D' (.deferred (some []))) [Ax D'] rest e h' λx e2 h2=>match x with
    |.exit _=>False
    |_=>K e2 h2
theorem RangeT.mk'{g:Operand}{ps:List Tmp}{assign body rest:Code}{e:Env}{h:Heap}{K:Env->Heap->Prop}(f:FuncId)(caps:List Value)(hg:e.eval g=.func (.func f) ⟨[]⟩ ⟨caps⟩)(hok:lY N e.n g=true)(hf:lp P f=true)
  (hk:∀(L D:Nat) (q:Loop) (I:Inj->World->Prop),I=Between L D q e->Kept N I->q.params=⟨ps⟩->q.assign=assign->q.body=body->q.state=.ready->q.pending=none->∃h',DJ P N I f ⟨.func (.yield L) ⟨[]⟩ ⟨[]⟩::caps⟩ h h' /\
   ∀D',CodeY P N none (Side D' (.deferred (some []))) [Ax D'] rest e h' λx e2 h2=>match x with
    |.exit _=>False
    |_=>K e2 h2):RangeT P N g ps assign body rest e h K :=
 ⟨f,caps,hok,hg,hf,λL D q q1 q2 q3 q4 q5=>hk L D q _ rfl ny q1 q2 q3 q4 q5⟩
theorem CodeT.range(hM:P.follows .mixedOrders=true){id:Nat}{e:Env}{h:Heap}{K:Env->Heap->Prop}{g:Operand}{ps:List Tmp}{a assign body rest:Code}(hok:codeOk N e.n a=true)(hk:CodeS P N a e h λx e1 h1=>match x with
  |.normal=>RangeT P N g ps assign body rest e1 h1 K
  |_=>False):CodeT P N (.seq (.seq a (.block id (.rangeFunc g ⟨ps⟩ assign body))) rest) e h K:=by
 obtain⟨x,e0,h0,c0,hk⟩:=hk.spec hM hok
 cases x with
 |exit id=>exact hk.elim
 |ret=>exact hk.elim
 |normal =>
 obtain⟨f,caps,ok,hg,hf,hk⟩:=(show RangeT P N g ps assign body rest e0 h0 K from hk).spec;refine⟨λn ι w a1 H rr=>wpIn_seq (wpIn_seq (wpIn_mono ((wpIn_wide (n:=n)).2 (c0.2 ι w a1 H rr.toE)) ?_))⟩;rintro y a2 w0 ⟨rfl,ι0,rr0,H0,S0⟩;refine wpIn_block (wpIn_mono (FV ok hg hf hk H0 (ERelD.plain rr0)) ?_);rintro y a1 w1 ⟨rfl,D,ι1,h1,rr1,H1,S1,sd,hle,hk1⟩;obtain⟨x,e2,h2,c2,hk2⟩:=(hk1 D).spec
 show rest.wpIn (rF none) n P _ a1 w1
 refine wpIn_mono (c2.2 n ι1 w1 a1 sd H1 rr1) ?_;rintro y a2 w2 ⟨rfl,ι2,rr2,H2,S2⟩;have hn:e2.n=e.n:=c2.1.2.trans c0.1.2;have hle':w.heap.size<=D:=Mf S0.wsize hle
 cases x with
 |exit id=>exact hk2.elim
 |normal=>exact⟨.inl rfl,D,ι2,e2,h2,rr2,H2,S0.trans (S1.trans S2),sd.step S2,hle',hn,hk2⟩
 |ret=>exact⟨.inr rfl,D,ι2,e2,h2,rr2,H2,S0.trans (S1.trans S2),sd.step S2,hle',hn,hk2⟩
theorem vu{f:FuncId}{vs:Array Value}{h:Heap}{r:Value}(hr:aq r)(fok:lp P f=true)
  (c:∀ι w vs',HRel N ι h w->bB ι vs vs'->Calls P f vs' w λe w'=>∃ι' v' h1 v,e=.returned v'/\VRel ι' v v'/\HRel N ι' h1 w'/\Step N ι h w ι' h1 w'/\Ext h h1/\∀h2,Frozen h.size h1 h2->VLe h2 v r):al P N f vs h r h:=by
 refine⟨LV _,λι w vs' H ra=>.inl ⟨fok,(c ι w vs' H ra).mono λe' w' q=>?_⟩⟩;obtain⟨ι',v',h1,v,rfl,r',H',S,e,hv⟩:=q;obtain⟨ι2,h2,H2,F,fs⟩:=H'.sZ h.size;have hx:Ext h h2:=F.ext e.1 e (LV _);have rr:VRel ι2 r v':=hv h2 F N ι2 w' v' H2 (r'.mono fs.le);have core:=sX H H2 (S.ext.trans fs.le) S.wsize S.frame S.out (λb C q1 q2=>?_) hx
 .exact⟨ι.with ι2,v',rfl,hr ι2 _ v' (λ_ _ q=>q) rr,core⟩
 .cases q3:ι'.fz b with
  |some C'=>exact S.fzown b C' q3 q2
  |none =>
   obtain⟨g0,l0,h1,h2⟩:=fs.own b C q1 q3
   cases q4:ι g0 with
   |some l1 =>
    have:=S.ext.at_ g0 l1 q4;rw[h1] at this;cases this;exact .inr ⟨g0,l0,q4,h2⟩
   |none =>
    rcases S.own g0 l0 h1 q4 with k1|⟨g1,l1,k1,_,k2⟩
    .exact .inl (h2 ▸ k1)
    .exact .inr ⟨g1,l1,k1,k2.trans h2⟩
theorem fnT{B:List AObj}{f:FuncId}{fn:Func}{c:Code}(hf:P.funcs[f]?=some fn)(hb:fn.body=some c)(fok:lp P f=true){vs:Array Value}(hs:vs.size<=fn.ntmps){r:Value}(hr:aq r)
  (hk:∀h,Own B h [] h->CodeT P N c (cM fn.ntmps vs) h λe1 h1=>mu P e1 h1 fn.results.toList λvs=>Ext h h1/\∀h2,Frozen h.size h1 h2->VLe h2 (sQ vs) r):FnV P N B f vs r:=by
 refine⟨hr,λh hB=>vu hr fok λι w vs' H ra=>(callsIn_wide (n:=0)).1 (callsIn_of_wp_marks (F:=rF none) hf hb trivial (wpIn_mono ((hk h (Own.start hB)).spec 0 ι w _ H (ERelD.plain (wC hs ra))) ?_))⟩;rintro y a1 w1 ⟨hy,D,ι1,e1,h1,rr1,H1,S1,sd,hle,_,hk1⟩;obtain⟨v,hv,hx,hle2⟩:=iH (K:=λv=>Ext h h1/\∀h2,Frozen h.size h1 h2->VLe h2 v r) hk1;have H2:HRel N ι1 h1 (w1.putObj D (.deferred none)):=H1.putObj sd.free _;obtain⟨v',q1,q2⟩:=eH H2 rr1.rel hv
 have fin:LeavesInM (rF none) 0 P fn a1.tmps (λe w'=>∃ι' v' h1 v,e=.returned v'/\VRel ι' v v'/\HRel N ι' h1 w'/\Step N ι h w ι' h1 w'/\Ext h h1/\∀h2,Frozen h.size h1 h2->VLe h2 v r) a1.defers .returning w1:=by
  rw[rr1.defers];refine⟨by simp,.inl ⟨D,_,rfl,run_takeDeferred sd.get,?_⟩⟩;exact⟨v',q1,ι1,v',h1,v,rfl,q2,H2,S1.wrap (LV _) (by simp) (λb hb hn=>by rw[N9 (by omega),S1.frame b hb hn]) ⟨rfl,rfl,rfl,rfl⟩ ⟨rfl,rfl,rfl,rfl⟩,hx,hle2⟩
 rcases hy with rfl|rfl
 .exact fin
 .exact fin
end
end Go.Abs
