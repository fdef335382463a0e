/- Parts of the proof. -/
import Derived.Test.YtglgdkineobbeaaGreatDoorTn44
import Derived.RangeFuncLeaves
import Derived.RangeFuncSeq
import Derived.LoopNIn
open Go.Call renaming operands->NQ
open Go.Code renaming roundsIn->PI
open Go.Exit renaming inBlock->Qx
open Go.Fence renaming wide->N7
open Go.Op renaming operands->Mi
open Go.Region renaming wanted->Mz
namespace Go.Abs
theorem HRel.upto{N:Nat}{ι:Inj}{h:Heap}{w w':World}(H:HRel N ι h w)(hs:w.heap.size<=w'.heap.size)
  (ho:∀b,b<w.heap.size->((∃g l,ι g=some l/\l.blk=b)\/(∃C,ι.fz b=some C))->w'.heap[b]?=w.heap[b]?):HRel N ι h w' where
 dom:=H.dom
 blk:=λg l e=>Mr (H.blk g l e) hs
 glob:=H.glob
 obj:=λg l o e q=>by rw[ho l.blk (H.blk g l e) (.inl ⟨g,l,e,rfl⟩)];exact H.obj g l o e q
 apart:=H.apart
 frz:=λb C e=>by
  obtain⟨ty,fr,q⟩:=H.frz b C e;exact⟨ty,fr,by rw[ho b (L3.1 q).1 (.inr ⟨C,e⟩)];exact q⟩
 fzap:=H.fzap
 rofz:=H.rofz
structure Free (b:Nat) (ι:Inj):Prop where
 at_:∀g l,ι g=some l->l.blk≠b
 fz:ι.fz b=none
structure Side (b:Nat) (x:Obj) (ι:Inj) (w:World):Prop where
 free:Free b ι
 get:w.heap[b]?=some x
theorem Side.lt{b:Nat}{x:Obj}{ι:Inj}{w:World}(s:Side b x ι w):b<w.heap.size:=(L3.1 s.get).1
theorem Side.step{N:Nat}{b:Nat}{x:Obj}{ι ι':Inj}{h h':Heap}{w w':World}(s:Side b x ι w)(t:Step N ι h w ι' h' w'):Side b x ι' w' where
 free:=⟨λg l e=>by
  cases q:ι g with
  |some l0 =>
   have:=t.ext.at_ g l0 q;rw[e] at this;cases this;exact s.free.at_ g l q
  |none =>
   have hb:=s.lt
   rcases t.own g l e q with h1|⟨g0,l0,h1,_,h3⟩
   .omega
   .rw[<- h3];exact s.free.at_ g0 l0 h1,by
  cases q:ι'.fz b with
  |none=>rfl
  |some C =>
   have hb:=s.lt
   rcases t.fzown b C q s.free.fz with h1|⟨g0,l0,h1,h2⟩
   .omega
   .exact absurd h2 (s.free.at_ g0 l0 h1)⟩
 get:=by rw[t.frame b s.lt (λg l e _=>s.free.at_ g l e)];exact s.get
theorem HRel.putObj{N:Nat}{ι:Inj}{h:Heap}{w:World}(H:HRel N ι h w){b:Nat}(f:Free b ι)(x:Obj):HRel N ι h (w.putObj b x) :=
 H.upto (by simp) λk _ q=>by
  refine World.putObj_heap_other λe=>?_;subst e
  rcases q with⟨g,l,e,q⟩|⟨C,q⟩
  .exact f.at_ g l e q
  .rw[f.fz] at q;cases q
theorem HRel.GX{N:Nat}{ι:Inj}{h:Heap}{w:World}(H:HRel N ι h w)(x:Obj):HRel N ι h (w.alloc x) :=
 H.upto (by simp) λk hk _=>by
  show (w.heap.push x)[k]?=_
  rw[ME,if_neg (by omega)]
structure ERelD (d:List Deferred) (ι:Inj) (e:Env) (a:Act):Prop where
 defers:a.defers=d
 rel:ERel ι e { a with defers:=[] }
theorem Act.oC(a:Act)(d:List Deferred):({ a with defers:=d }:Act).eval=a.eval:=by
 funext x;cases x <;> rfl
theorem ERelD.mono{d:List Deferred}{ι ι':Inj}(h:Inj.Le ι ι'){e:Env}{a:Act}(r:ERelD d ι e a):ERelD d ι' e a:=⟨r.defers,r.rel.mono h⟩
theorem ERelD.put{d:List Deferred}{ι:Inj}{e:Env}{a:Act}(r:ERelD d ι e a){t:Option Tmp}(hd:∀i,t=some i->i<e.n){v v':Value}(q:VRel ι v v'):ERelD d ι (e.put t v) (a.put t v'):=by
 refine⟨?_,?_⟩
 .cases t <;> exact r.defers
 .have:=r.rel.put hd q
  cases t <;> exact this
theorem ERelD.plain{ι:Inj}{e:Env}{a:Act}(r:ERel ι e a):ERelD [] ι e a:=by
 refine⟨r.defers,?_⟩
 have:({ a with defers:=[] }:Act)=a:=by
  obtain⟨t,d⟩:=a;have:=r.defers;simp only at this;subst this;rfl
 rw[this];exact r
theorem ERelD.toE{ι:Inj}{e:Env}{a:Act}(r:ERelD [] ι e a):ERel ι e a:=by
 obtain⟨t,d⟩:=a;have:=r.defers;simp only at this;subst this;exact r.rel
def rF(r:Option Nat):Fence:={ N7 with round:=r }
theorem I1{P:Program}{o:Oper}{a:Act}{next:Act->World->Prop}{Q:Exit->Act->World->Prop}{r:Option Nat}{n:Nat}{x:Result Next}(h:o.upon P a next Q x):o.uponIn (rF r) n P a next Q x:=by
 cases x with
 |ok nx w' =>
  cases nx <;> first|exact h|exact h.elim|skip
  .rename_i f args;refine⟨λe=>by simp[rF,N7] at e,?_⟩;have:=(callsIn_wide (n:=n-1)).2 h;exact⟨trivial,this.2⟩
  .refine⟨λe=>by simp[rF,N7] at e,λc cs _=>?_⟩;obtain⟨v,w2,q,s⟩:=h c cs;exact⟨v,w2,q,stepsIn_wide.2 s⟩
 |halt y w' =>
  cases y <;> first|exact h|exact h.elim
def vj(ops:List Oper):Bool:=ops.all λo=>match o.op with
 |.defer _=>false
 |_=>true
theorem CQ{o:Oper}{ops:List Oper}(h:vj ops=true)(m:o∈ops):∀c,o.op≠.defer c:=by
 intro c e;have:=(Md.1 h) o m;rw[e] at this
 cases this
section
variable {P:Program} {N:Nat}
def YC(P:Program)(N:Nat)(I:Inj->World->Prop)(l:Nat)(us:List Value)(h:Heap)(v:Value)(h':Heap):Prop :=
 h.size<=h'.size/\∀n ι w us',I ι w->HRel N ι h w->ba ι us us' ->
  YieldAt (rF none) n P l ⟨us'⟩ w λen w'=>∃ι' v',en=.returned v'/\VRel ι' v v'/\HRel N ι' h' w'/\Step N ι h w ι' h' w'
def yieldOf(o:Op):Option (Operand×List Operand) :=
 match o with
 |.call { callee:=.value x,args:=⟨ys⟩,.. }=>some (x,ys)
 |_=>none
def OpY(P:Program)(N:Nat)(I:Inj->World->Prop)(o:Oper)(e:Env)(h:Heap)(v:Value)(h':Heap):Prop :=
 OpE P N o e h v h'\/∃x ys l,yieldOf o.op=some (x,ys)/\e.eval x=.func (.yield l) ⟨[]⟩ ⟨[]⟩/\YC P N I l (ys.map e.eval) h v h'
theorem EN{I:Inj->World->Prop}{o:Oper}{e:Env}{a:Act}{v:Value}{ι:Inj}{h h':Heap}{w:World}{n:Nat}(H:HRel N ι h w)(hi:I ι w)(hρ:∀x∈o.op.operands,VRel ι (e.eval x) (a.eval x))(hnd:∀c,o.op≠.defer c)(r:Option Nat)
  (hd:OpY P N I o e h v h') (hr:r=none\/OpE P N o e h v h') {K:Act->World->Prop} {Q:Exit->Act->World->Prop}
  (k:∀ι' v' w',VRel ι' v v'->HRel N ι' h' w'->Step N ι h w ι' h' w'->K (a.put o.dst v') w'):o.wpIn (rF r) n P a w K Q:=by
 refine⟨λ_ _=>trivial,?_⟩;rw[Oper.semAt_eq _ _ _ hnd];have ord:OpE P N o e h v h'->o.uponIn (rF r) n P a K Q ((execOp a.eval o).run P w):=λhd=>I1 (yO H hρ hd k)
 rcases hd with hd|⟨x,y,l,ho,hx,hy⟩
 .exact ord hd
 .rcases hr with rfl|hr
  .obtain⟨dst,op,type,pos,after,guard⟩:=o
   cases op <;> try (simp[yieldOf] at ho;done)
   rename_i c;obtain⟨callee,args,argTypes⟩:=c
   cases callee <;> try (simp[yieldOf] at ho;done)
   rename_i x1;obtain⟨args⟩:=args;simp only[yieldOf,LR,Mn] at ho;obtain⟨rfl,rfl⟩:=ho;have q:=hρ x1 (by simp[Mi,NQ])
   have qy:=(bB.map (ι:=ι) (ρ:=e.eval) (ρ':=a.eval) ⟨args⟩ (λx hx=>hρ x (by
    have hx':x∈args:=by simpa using hx
    simp[Mi,NQ,hx']))).list
   simp only[Qb] at qy;rw[hx] at q;generalize ex:a.eval x1=z1 at q
   cases q with
   |func _ _ _ a' b' s1 s2 _ _ =>
    have ea:a' = #[]:=NJ s1.symm;have eb:b' = #[]:=NJ s2.symm;subst ea eb;obtain⟨fn,tmps,assign,body,h1,h2⟩:=hy.2 (n-1) ι w (args.map a.eval) hi H qy
    have hexec:(execOp a.eval ⟨dst,.call ⟨.value x1,⟨args⟩,argTypes⟩,type,pos,after,guard⟩).run P w=.ok (.round l fn tmps assign body) w:=by
     rw[<- h1];simp[execOp,resolve,Deferred.ofValue,ex,invoke]
    rw[hexec];refine⟨λe=>by simp[rF,N7] at e,h2.mono ?_⟩;rintro en w' ⟨ι',v',rfl,q1,q2,q3⟩;exact k ι' v' w' q1 q2 q3
  .exact ord hr
def mT(P:Program)(N:Nat)(r:Option Nat)(I:Inj->World->Prop)(ops:Array Oper):List Oper->Env->Heap->Env->Heap->Prop
 |[],e,h,e',h'=>e'=e/\h'=h
 |o::l,e,h,e',h' =>
  if Mz o (aQ ops e) then ∃v h1,OpY P N I o e h v h1/\(r=none\/OpE P N o e h v h1)/\mT P N r I ops l (e.put o.dst v) h1 e' h'
  else mT P N r I ops l (e.put o.dst undef) h e' h'
theorem mT.of{r:Option Nat}{I:Inj->World->Prop}{ops:Array Oper}:∀{l l2:List Oper}{e e1 e2:Env}{h h1 h2:Heap},lK P N ops l e h e1 h1->mT P N r I ops l2 e1 h1 e2 h2->mT P N r I ops (l++l2) e h e2 h2
 |[],_,_,_,_,_,_,_,hd,hy=>by obtain⟨rfl,rfl⟩:=hd;exact hy
 |o::l,_,e,_,_,h,_,_,hd,hy=>by
  unfold lK at hd
  show mT P N r I ops (o::(l++_)) e h _ _
  unfold mT;split at hd
  .rename_i hw;rw[if_pos hw];obtain⟨v,h3,q,hd⟩:=hd;exact⟨v,h3,.inl q,.inr q,mT.of hd hy⟩
  .rename_i hw;rw[if_neg hw];exact mT.of hd hy
theorem OpY.size{I:Inj->World->Prop}{o:Oper}{e:Env}{h h':Heap}{v:Value}(hd:OpY P N I o e h v h'):h.size<=h'.size:=by
 rcases hd with hd|⟨_,_,_,_,_,hy⟩
 .have:lK P N #[o] [{ o with guard:=none }] e h (e.put o.dst v) h':=by
   unfold lK;have hw:Mz { o with guard:=none } (aQ #[o] e)=true:=rfl;rw[if_pos hw];exact⟨v,h',by obtain⟨_,_,_,_,_,_⟩:=o;exact hd,rfl,rfl⟩
  exact this.size
 .exact hy.1
theorem mT.size{r:Option Nat}{I:Inj->World->Prop}{ops:Array Oper}:∀{l:List Oper}{e e':Env}{h h':Heap},mT P N r I ops l e h e' h'->h.size<=h'.size/\e'.n=e.n
 |[],_,_,_,_,hy=>by obtain⟨rfl,rfl⟩:=hy;exact⟨LV _,rfl⟩
 |o::l,e,e',h,h',hy=>by
  unfold mT at hy;split at hy
  .obtain⟨v,h3,q,_,hy⟩:=hy;have:=mT.size hy;exact⟨Mf q.size this.1,by rw[this.2,Env.er]⟩
  .have:=mT.size hy;exact⟨this.1,by rw[this.2,Env.er]⟩
def Kept(N:Nat)(I:Inj->World->Prop):Prop:=∀ι h w ι' h' w',Step N ι h w ι' h' w'->I ι w->I ι' w'
theorem qU{r:Option Nat}{I:Inj->World->Prop}(hI:Kept N I){ops:Array Oper}{Q:Exit->Act->World->Prop}{d:List Deferred}{n:Nat}:∀(l:List Oper) (i:Nat),(∀j,l[j]?=ops[i+j]?)->∀(ι:Inj) (e:Env) (a:Act) (h:Heap) (w:World) (e':Env) (h':Heap),jI N e.n ops=true ->
  vj ops.toList=true->mT P N r I ops l e h e' h'->I ι w->HRel N ι h w->ERelD d ι e a->(∀ι' a' w',ERelD d ι' e' a'->HRel N ι' h' w'->Step N ι h w ι' h' w'->Q .normal a' w')->wpOpsIn (rF r) n P ops Q (List.range' i l.length) a w
 |[],i,_,ι,e,a,h,w,e',h',_,_,hr,_,H,rr,k=>by
  obtain⟨rfl,rfl⟩:=hr;exact k ι a w rr H (Step.refl w H.dom)
 |o::l,i,hl,ι,e,a,h,w,e',h',hok,hnd,hr,hi,H,rr,k=>by
  have ho:ops[i]?=some o:=by have:=hl 0;simpa using this.symm
  have hmem:o∈ops.toList:=Nl.2 (M5 ho);have hoko:=(Md.1 hok) o hmem
  have hl':∀j,l[j]?=ops[i+1+j]?:=λj=>by have:=hl (j+1);simpa[Nm,OQ 1 j] using this
  simp only[M8,Q5];unfold wpOpsIn;simp only[ho];unfold mT at hr;have hy:yielded ops a.tmps=aQ ops e:=funext (tY (a:={ a with defers:=[] }) rr.rel hok)
  have hops:∀x∈o.op.operands,VRel ι (e.eval x) (a.eval x):=by
   have:=fT H rr.rel hoko;rw[Act.oC] at this;exact this
  rw[hy];split at hr
  .rename_i hw;rw[if_pos hw];obtain⟨v,h1,hd,hor,hr⟩:=hr;refine EN H hi hops (CQ hnd hmem) r hd hor λι' v' w' q1 q2 q3=>?_;exact qU hI l (i+1) hl' ι' _ _ h1 w' e' h' (by rw[Env.er];exact hok) hnd hr (hI _ _ _ _ _ _ q3 hi) q2 ((rr.mono q3.ext).put (jU hoko) q1) λι'' a' w'' r1 r2 r3=>k ι'' a' w'' r1 r2 (q3.trans r3)
  .rename_i hw;rw[if_neg hw];exact⟨λ_ _=>trivial,qU hI l (i+1) hl' ι _ _ h w e' h' (by rw[Env.er];exact hok) hnd hr hi H (rr.put (jU hoko) (VRel.nothing ι)) k⟩
def BB(P:Program)(N:Nat)(r:Option Nat)(I:Inj->World->Prop)(d:List Deferred)(c:Code)(e:Env)(h:Heap)(x:Exit)(e':Env)(h':Heap):Prop :=
 (h.size<=h'.size/\e'.n=e.n)/\∀n ι w a,I ι w->HRel N ι h w->ERelD d ι e a->c.wpIn (rF r) n P (λy a' w'=>y=x/\∃ι',ERelD d ι' e' a'/\HRel N ι' h' w'/\Step N ι h w ι' h' w') a w
structure CodeY (P:Program) (N:Nat) (r:Option Nat) (I:Inj->World->Prop) (d:List Deferred) (c:Code) (e:Env) (h:Heap) (K:X->Env->Heap->Prop):Prop where
 spec:∃x e1 h1,BB P N r I d c e h (X.bN x) e1 h1/\K x e1 h1
structure RegYS (P:Program) (N:Nat) (r:Option Nat) (I:Inj->World->Prop) (ops:Array Oper) (l:List Oper) (k:Nat) (e:Env) (h:Heap) (K:Env->Heap->Prop):Prop where
 spec:∃e1 h1,mT P N r I ops l e h e1 h1/\K e1 h1
variable {r:Option Nat} {I:Inj->World->Prop} {d:List Deferred}
theorem RegYS.nil{ops:Array Oper}{k:Nat}{e:Env}{h:Heap}{K:Env->Heap->Prop}(hk:K e h):RegYS P N r I ops [] k e h K:=⟨e,h,⟨rfl,rfl⟩,hk⟩
theorem RegYS.Kk(m:Nat){l:List Oper}{ops:Array Oper}{k:Nat}{e:Env}{h:Heap}{K:Env->Heap->Prop}
  (hk:RegS P N ops (l.take m) k e h λe h=>RegYS P N r I ops (l.drop m) (k+m) e h K):RegYS P N r I ops l k e h K:=by
 obtain⟨e1,h1,c1,hk⟩:=hk.spec;obtain⟨e2,h2,c2,hk⟩:=hk.spec;have:=mT.of c1 c2;rw[Na] at this;exact⟨e2,h2,this,hk⟩
theorem RegYS.yield{o:Oper}{l:List Oper}{ops:Array Oper}{k:Nat}{e:Env}{h:Heap}{K:Env->Heap->Prop}{x:Operand}{ys:List Operand}{us:List Value}{g:Nat}{v:Value}{h1:Heap}(hw:Mz o (aQ ops e)=true)(ho:yieldOf o.op=some (x,ys))
  (hx:e.eval x=.func (.yield g) ⟨[]⟩ ⟨[]⟩) (hu:ys.map e.eval=us) (hy:YC P N I g us h v h1) (hk:qO e o.dst v λe=>RegYS P N none I ops l (k+1) e h1 K):RegYS P N none I ops (o::l) k e h K:=by
 subst hu;rw[iA] at hk;obtain⟨e2,h2,c2,hk⟩:=hk.spec;refine⟨e2,h2,?_,hk⟩;unfold mT;rw[if_pos hw];exact⟨v,h1,.inr ⟨x,ys,g,ho,hx,hy⟩,.inl rfl,c2⟩
theorem CodeY.region(hI:Kept N I){id:Nat}{l:List Oper}{e:Env}{h:Heap}{K:X->Env->Heap->Prop}(hok:jI N e.n ⟨l⟩=true)(hnd:vj l=true)(hk:RegYS P N r I ⟨l⟩ l 0 e h (K .normal)):CodeY P N r I d (.region id ⟨l⟩ false) e h K:=by
 obtain⟨e1,h1,c1,hk⟩:=hk.spec;refine⟨.normal,e1,h1,⟨c1.size,λn ι w a hi H rr=>wpIn_region ?_⟩,hk⟩;have:=qU (Q:=λx a' w'=>x=.normal/\∃ι',ERelD d ι' e1 a'/\HRel N ι' h1 w'/\Step N ι h w ι' h1 w') (n:=n) hI l 0 (λj=>by simp) ι e a h w e1 h1 hok hnd c1 hi H rr (λι' a' w' q1 q2 q3=>⟨rfl,ι',q1,q2,q3⟩);rw[OS];simpa[X.bN] using this
theorem CodeY.reg(hI:Kept N I){id:Nat}{l:List Oper}{e:Env}{h:Heap}{K:X->Env->Heap->Prop}(hok:jI N e.n ⟨l⟩=true)(hnd:vj l=true)(hk:RegS P N ⟨l⟩ l 0 e h (K .normal)):CodeY P N r I d (.region id ⟨l⟩ false) e h K:=by
 refine CodeY.region hI hok hnd ?_;obtain⟨e1,h1,c1,hk⟩:=hk.spec;refine⟨e1,h1,?_,hk⟩;have:=mT.of (r:=r) (I:=I) c1 (l2:=[]) (e2:=e1) (h2:=h1) ⟨rfl,rfl⟩;rwa [MZ] at this
theorem CodeY.skip{e:Env}{h:Heap}{K:X->Env->Heap->Prop}(hk:K .normal e h):CodeY P N r I d .skip e h K :=
 ⟨.normal,e,h,⟨⟨LV _,rfl⟩,λ_ _ w _ _ H rr=>wpIn_skip ⟨rfl,_,rr,H,Step.refl w H.dom⟩⟩,hk⟩
theorem CodeY.exit{id:Nat}{e:Env}{h:Heap}{K:X->Env->Heap->Prop}(hk:K (.exit id) e h):CodeY P N r I d (.exit id) e h K :=
 ⟨.exit id,e,h,⟨⟨LV _,rfl⟩,λ_ _ w _ _ H rr=>wpIn_exit ⟨rfl,_,rr,H,Step.refl w H.dom⟩⟩,hk⟩
theorem CodeY.ret{e:Env}{h:Heap}{K:X->Env->Heap->Prop}(hk:K .ret e h):CodeY P N r I d .ret e h K :=
 ⟨.ret,e,h,⟨⟨LV _,rfl⟩,λ_ _ w _ _ H rr=>wpIn_ret ⟨rfl,_,rr,H,Step.refl w H.dom⟩⟩,hk⟩
theorem CodeY.seq(hI:Kept N I){a b:Code}{e:Env}{h:Heap}{K:X->Env->Heap->Prop}(hk:CodeY P N r I d a e h λx e h=>match x with
  |.normal=>CodeY P N r I d b e h K
  |.exit id=>K (.exit id) e h
  |.ret=>K .ret e h):CodeY P N r I d (.seq a b) e h K:=by
 obtain⟨x,e1,h1,c1,hk⟩:=hk.spec
 have stop:∀y:X,y≠.normal->x=y->CodeY P N r I d (.seq a b) e h λx e h=>x=y/\e=e1/\h=h1:=λy hy hx=>by
  subst hx;refine⟨x,e1,h1,⟨c1.1,λn ι w a' hi H rr=>wpIn_seq (wpIn_mono (c1.2 n ι w a' hi H rr) ?_)⟩,rfl,rfl,rfl⟩;rintro y a2 w2 ⟨rfl,q⟩
  cases x with
  |normal=>exact absurd rfl hy
  |exit id=>exact⟨rfl,q⟩
  |ret=>exact⟨rfl,q⟩
 cases x with
 |normal =>
  obtain⟨x,e2,h2,c2,hk⟩:=(show CodeY P N r I d b e1 h1 K from hk).spec;refine⟨x,e2,h2,⟨⟨Mf c1.1.1 c2.1.1,c2.1.2.trans c1.1.2⟩,λn ι w a' hi H rr=>wpIn_seq (wpIn_mono (c1.2 n ι w a' hi H rr) ?_)⟩,hk⟩;rintro y a2 w2 ⟨rfl,ι2,rr2,H2,S2⟩;refine wpIn_mono (c2.2 n ι2 w2 a2 (hI _ _ _ _ _ _ S2 hi) H2 rr2) ?_;rintro y a3 w3 ⟨rfl,ι3,rr3,H3,S3⟩;exact⟨rfl,ι3,rr3,H3,S2.trans S3⟩
 |exit id =>
  obtain⟨x,e2,h2,c2,rfl,rfl,rfl⟩:=(stop (.exit id) (by simp) rfl).spec;exact⟨_,_,_,c2,hk⟩
 |ret =>
  obtain⟨x,e2,h2,c2,rfl,rfl,rfl⟩:=(stop .ret (by simp) rfl).spec;exact⟨_,_,_,c2,hk⟩
theorem CodeY.cond{c:Operand}{a b:Code}{e:Env}{h:Heap}{K:X->Env->Heap->Prop}(hok:lY N e.n c=true)(t:Bool)(hc:e.eval c=.bool t)(hk:CodeY P N r I d (match t with|true=>a|false=>b) e h K):CodeY P N r I d (.cond c a b) e h K:=by
 obtain⟨x,e1,h1,c1,hk⟩:=hk.spec;refine⟨x,e1,h1,⟨c1.1,λn ι w a' hi H rr=>?_⟩,hk⟩;have q:=rr.rel.eval H hok;rw[hc,Act.oC] at q;have q':a'.eval c=.bool t:=q.bZ rfl
 cases t
 .exact wpIn_cond_false q' (c1.2 n ι w a' hi H rr)
 .exact wpIn_cond_true q' (c1.2 n ι w a' hi H rr)
theorem CodeY.block{id:Nat}{c:Code}{e:Env}{h:Heap}{K:X->Env->Heap->Prop}(hk:CodeY P N r I d c e h λx e h=>match x with
  |.normal=>K .normal e h
  |.exit id'=>if id'=id then K .normal e h else K (.exit id') e h
  |.ret=>K .ret e h):CodeY P N r I d (.block id c) e h K:=by
 obtain⟨x,e1,h1,c1,hk⟩:=hk.spec
 cases x with
 |normal =>
  refine⟨.normal,e1,h1,⟨c1.1,λn ι w a' hi H rr=>wpIn_block (wpIn_mono (c1.2 n ι w a' hi H rr) ?_)⟩,hk⟩;rintro y a2 w2 ⟨rfl,q⟩;exact⟨rfl,q⟩
 |ret =>
  refine⟨.ret,e1,h1,⟨c1.1,λn ι w a' hi H rr=>wpIn_block (wpIn_mono (c1.2 n ι w a' hi H rr) ?_)⟩,hk⟩;rintro y a2 w2 ⟨rfl,q⟩;exact⟨rfl,q⟩
 |exit id' =>
  by_cases hid:id'=id
  .subst hid;simp only[if_true] at hk;refine⟨.normal,e1,h1,⟨c1.1,λn ι w a' hi H rr=>wpIn_block (wpIn_mono (c1.2 n ι w a' hi H rr) ?_)⟩,hk⟩;rintro y a2 w2 ⟨rfl,q⟩
   show Qx id' _ (.exit id') a2 w2
   rw[qu];exact⟨rfl,q⟩
  .simp only[if_neg hid] at hk;refine⟨.exit id',e1,h1,⟨c1.1,λn ι w a' hi H rr=>wpIn_block (wpIn_mono (c1.2 n ι w a' hi H rr) ?_)⟩,hk⟩;rintro y a2 w2 ⟨rfl,q⟩
   show Qx id _ (.exit id') a2 w2
   rw[qR hid];exact⟨rfl,q⟩
def JA(P:Program)(N:Nat)(r:Option Nat)(I:Inj->World->Prop)(d:List Deferred)(c:Code)(k:Nat)(e:Env)(h:Heap)(x:Exit)(e':Env)(h':Heap):Prop :=
 (h.size<=h'.size/\e'.n=e.n)/\∀n ι w a,I ι w->HRel N ι h w->ERelD d ι e a->PI (rF r) n P c (λy a' w'=>y=x/\∃ι',ERelD d ι' e' a'/\HRel N ι' h' w'/\Step N ι h w ι' h' w') k a w
theorem ERelD.congr{ι:Inj}{e e':Env}{a:Act}(r:ERelD d ι e a)(hn:e'.n=e.n)(hg:∀t,t<e.n->e'.get t=e.get t):ERelD d ι e' a:=⟨r.defers,r.rel.congr hn hg⟩
theorem BB.congr{c:Code}{e e':Env}{h h1:Heap}{ex:Exit}{e1:Env}(hn:e'.n=e.n)(hg:∀t,t<e.n->e'.get t=e.get t)(hc:BB P N r I d c e' h ex e1 h1):BB P N r I d c e h ex e1 h1 :=
 ⟨⟨hc.1.1,hc.1.2.trans hn⟩,λn ι w a hi H rr=>hc.2 n ι w a hi H (rr.congr hn hg)⟩
theorem CodeY.cut{c:Code}{nn:Nat}(J:Heap->Prop)(env:List (Nat×Value)){e:Env}{h:Heap}{K:X->Env->Heap->Prop}(hn:e.n=nn)(start:J h/\lj env e)
  (rest:∀base,J h->eI (dJ env) λt=>CodeY P N r I d c ⟨nn,t,base⟩ h K):CodeY P N r I d c e h K:=by
 obtain⟨x,e1,h1,c1,hk⟩:=((bQ _ _).1 (rest e.get start.1)).spec;exact⟨x,e1,h1,c1.congr (e':=⟨nn,dJ env,e.get⟩) hn.symm (λt _=>by have:=tn (gS start.2) t;rw[hn] at this;exact this),hk⟩
theorem qe{F:Fence}{n:Nat}{c:Code}{Q Q':Exit->Act->World->Prop}(hq:∀x a w,Q x a w->Q' x a w):∀(k:Nat) (a:Act) (w:World),PI F n P c Q k a w->PI F n P c Q' k a w
 |0,_,_,hr=>hr
 |k+1,a,w,hr=>by
  unfold PI at hr ⊢;refine wpIn_mono hr ?_;intro x a' w' q
  cases x <;> first|exact hq _ _ _ q|exact qe hq k a' w' q
theorem CodeY.loop(hI:Kept N I){c:Code}{nn:Nat}{σ:Type}(J:σ->Heap->Prop)(env:σ->List (Nat×Value))(μ:σ->Nat){e:Env}{h:Heap}{K:X->Env->Heap->Prop}(hn:e.n=nn)
  (start:∃s,J s h/\lj (env s) e)
  (round:∀s base h,J s h->eI (dJ (env s)) λt=>CodeY P N r I d c ⟨nn,t,base⟩ h λx e1 h1=>match x with
   |.normal=>∃s',μ s'<μ s/\J s' h1/\lj (env s') e1
   |.exit id=>K (.exit id) e1 h1
   |.ret=>K .ret e1 h1):CodeY P N r I d (.loop c) e h K:=by
 have key:∀(m:Nat) (s:σ) (e:Env) (h:Heap),μ s=m->e.n=nn->J s h->holds (env s) e->∃k x e1 h1,JA P N r I d c k e h (X.bN x) e1 h1/\K x e1 h1:=by
  intro m
  induction m using Nat.strongRecOn with
  |_ m ih =>
   intro s e h hm he hJ hh;obtain⟨x,e1,h1,c1,hk⟩:=((bQ _ _).1 (round s e.get h hJ)).spec;have c2:BB P N r I d c e h (X.bN x) e1 h1:=c1.congr (e':=⟨nn,dJ (env s),e.get⟩) he.symm (λt _=>by have:=tn hh t;rw[he] at this;exact this)
   have last:∀y:X,y≠.normal->x=y->JA P N r I d c 1 e h (X.bN y) e1 h1:=λy hy hx=>by
    subst hx;refine⟨c2.1,λn ι w a hi H rr=>?_⟩;unfold PI;refine wpIn_mono (c2.2 n ι w a hi H rr) ?_;rintro z a' w' ⟨rfl,q⟩
    cases x with
    |normal=>exact absurd rfl hy
    |exit id=>exact⟨rfl,q⟩
    |ret=>exact⟨rfl,q⟩
   cases x with
   |normal =>
    obtain⟨s',hlt,hJ',hh'⟩:=hk;obtain⟨k,x,e2,h2,l2,hk⟩:=ih (μ s') (hm ▸ hlt) s' e1 h1 rfl (c2.1.2.trans he) hJ' (gS hh');refine⟨k+1,x,e2,h2,⟨⟨Mf c2.1.1 l2.1.1,l2.1.2.trans c2.1.2⟩,λn ι w a hi H rr=>?_⟩,hk⟩;unfold PI;refine wpIn_mono (c2.2 n ι w a hi H rr) ?_;rintro z a' w' ⟨rfl,ι2,rr2,H2,S2⟩;refine qe ?_ k a' w' (l2.2 n ι2 w' a' (hI _ _ _ _ _ _ S2 hi) H2 rr2);rintro z a3 w3 ⟨rfl,ι3,rr3,H3,S3⟩;exact⟨rfl,ι3,rr3,H3,S2.trans S3⟩
   |exit id=>exact⟨1,.exit id,e1,h1,last _ (by simp) rfl,hk⟩
   |ret=>exact⟨1,.ret,e1,h1,last _ (by simp) rfl,hk⟩
 obtain⟨s,hJ,hh⟩:=start;obtain⟨k,x,e1,h1,l1,hk⟩:=key (μ s) s e h rfl hn hJ (gS hh);exact⟨x,e1,h1,⟨l1.1,λn ι w a hi H rr=>wpIn_loop_rounds k (l1.2 n ι w a hi H rr)⟩,hk⟩
end
end Go.Abs
