/- Parts of the proof. -/
import Derived.Test.YtglgdkineobbeaaGreatDoorTn12
import Derived.Maps.RangeRun
open Go.Builtin renaming len_->PV
open Go.Call renaming operands->NQ
open Go.Op renaming equal->PE,equalIn->OG,operands->Mi
open Go.Oper renaming wp->PY
open Go.Result renaming andThen_ok->Mo
open Go.Sem renaming run->Pn,run_bind->Mv,run_pure->MO
open List renaming range'->PO
namespace Go.Abs
def Env.eval(e:Env):Operand->Value
 |.tmp t=>e.get t
 |.const v=>v
 |.global g=>.pointer (some ⟨g,0,none⟩)
 |.func f=>.func (.func f) #[] #[]
structure ERel (ι:Inj) (e:Env) (a:Act):Prop where
 defers:a.defers=[]
 size:a.tmps.size=e.n
 get:∀t,t<e.n->VRel ι (e.get t) (a.tmps.getD t undef)
def lY(N n:Nat):Operand->Bool
 |.tmp t=>decide (t<n)
 |.const v=>plain v
 |.global g=>decide (g<N)
 |.func _=>true
def ig(N n:Nat)(o:Oper):Bool :=
 o.op.operands.all (lY N n)&&(match o.dst with|some d=>decide (d<n) | none=>true)
def jI(N n:Nat)(ops:Array Oper):Bool:=ops.toList.all (ig N n)
theorem ERel.mono{ι ι':Inj}(h:Inj.Le ι ι'){e:Env}{a:Act}(r:ERel ι e a):ERel ι' e a :=
 ⟨r.defers,r.size,λt ht=>(r.get t ht).mono h⟩
theorem ERel.eval{N:Nat}{ι:Inj}{h:Heap}{w:World}(H:HRel N ι h w){e:Env}{a:Act}(r:ERel ι e a){x:Operand}(hx:lY N e.n x=true):VRel ι (e.eval x) (a.eval x):=by
 cases x with
 |tmp t=>exact r.get t (by simpa[lY] using hx)
 |const v=>exact VRel.aU hx
 |global g =>
  obtain⟨l,h1,h2,h3⟩:=H.glob g (by simpa[lY] using hx);have:=VRel.ptr (ι:=ι) g 0 l h1;rw[h2,h3] at this;exact this
 |func f=>exact .func _ _ _ _ _ rfl rfl (λi=>by simpa using VRel.nothing ι) (λi=>by simpa using VRel.nothing ι)
theorem ERel.put{ι:Inj}{e:Env}{a:Act}(r:ERel ι e a){d:Option Tmp}(hd:∀i,d=some i->i<e.n){v v':Value}(q:VRel ι v v'):ERel ι (e.put d v) (a.put d v'):=by
 cases d with
 |none=>exact r
 |some i =>
  refine⟨r.defers,by simp[Act.put,Env.put,Env.set,r.size],λt ht=>?_⟩
  show VRel ι ((e.set i v).get t) ((a.tmps.setIfInBounds i v').getD t undef)
  rw[Env.dq,LW,NP];have hi:=hd i rfl;by_cases c:t=i
  .subst c;simp[r.size,hi,q]
  .rw[if_neg c,if_neg (NU c),<- LW];exact r.get t ht
theorem Env.er(e:Env)(d:Option Tmp)(v:Value):(e.put d v).n=e.n:=by cases d <;> rfl
def aQ(ops:Array Oper)(e:Env)(j:Nat):Option Bool :=
 match (ops[j]?).bind (·.dst) with
 |some d=>match e.get d with
  |.bool b=>some b
  |_=>none
 |none=>none
theorem tY{N:Nat}{ι:Inj}{e:Env}{a:Act}(r:ERel ι e a){ops:Array Oper}(hok:jI N e.n ops=true)(j:Nat):yielded ops a.tmps j=aQ ops e j:=by
 unfold yielded aQ
 cases ho:ops[j]? with
 |none=>rfl
 |some o =>
  cases hd:o.dst with
  |none=>simp[hd]
  |some d =>
   have hm:o∈ops.toList:=Nl.2 (M5 ho)
   have hlt:d<e.n:=by
    have:=(Md.1 hok) o hm;simp[ig,hd] at this;exact this.2
   have q:=r.get d hlt;rw[LW] at q;obtain⟨u',hsome⟩:∃u',a.tmps[d]?=some u':=⟨_,Me (by rw[r.size];exact hlt)⟩;rw[hsome,NI] at q;simp only[Oo,hd,hsome];generalize e.get d=u at q
   cases q <;> rfl
inductive Cls where
 |pure|read|new|eff|call
def cls:Op->Cls
 |.load .. | .convert .. | .lookup .. => .read
 |.alloc _ | .box .. | .buildSlice .. | .makeSlice .. | .makeMap .. | .range .. => .new
 |.store .. | .next .. | .mapUpdate .. | .mapEntry .. | .entryStore .. => .eff
 |.call { callee:=.builtin .append,.. } | .call { callee:=.builtin .copy,.. } | .call { callee:=.builtin .clear,.. }=>.eff
 |.call { callee:=.value _,.. }=>.call
 |_=>.pure
def fq(ρ:Operand->Value)(op:Op):Option (FuncId×Array Value) :=
 match op with
 |.call { callee:=.value f,args,.. } =>
  match ρ f with
  |.func (.func f) first captured=>some (f,first++args.map ρ++captured)
  |_=>none
 |_=>none
def lp(P:Program)(f:FuncId):Bool :=
 match P.funcs[f]? with
 |some fn => fn.body.isSome && !(fn.name == "runtime.NumGoroutine")
 |none=>false
def al(P:Program)(N:Nat)(f:FuncId)(vs:Array Value)(h:Heap)(v:Value)(h':Heap):Prop :=
 h.size<=h'.size/\∀ι w vs',HRel N ι h w->bB ι vs vs' ->
  (lp P f=true/\Calls P f vs' w λe w'=>∃ι' v',e=.returned v'/\VRel ι' v v'/\HRel N ι' h' w'/\Step N ι h w ι' h' w') \/
  (∃v',(callFunc f vs').run P w=.ok (.value v') w/\VRel ι v v'/\h'=h)
def OpD(P:Program)(N:Nat)(o:Oper)(e:Env)(h:Heap)(v:Value)(h':Heap):Prop :=
 match cls o.op with
 |.pure=>aC P e.eval o=some v/\h'=h
 |.read=>bp P e.eval o h=some v/\h'=h
 |.new=>∃ob f,ew P e.eval o=some (ob,f)/\v=f h.size/\h'=h.push ob
 |.eff=>cZ P e.eval o h=some (v,h')
 |.call=>∃f vs,fq e.eval o.op=some (f,vs)/\al P N f vs h v h'
def zG(h:Heap)(g off g' off':Nat):Option Bool :=
 if g=g' then some (decide (off=off')) else
 match h.get g,h.get g' with
 |some (.cells _ false),some (.cells _ false)=>some false
 |_,_=>none
def qF(P:Program)(ρ:Operand->Value)(o:Oper)(h:Heap):Option Value :=
 match o.op with
 |.binOp op t x y _ =>
  match P.underlying t,ρ x,ρ y with
  |some (.pointer e),.pointer (some ⟨g,off,none⟩),.pointer (some ⟨g',off',none⟩) =>
   match bb P e with
   |some (_+1) =>
    match op,zG h g off g' off' with
    |.eql,some b=>some (.bool b)
    |.neq,some b=>some (.bool !b)
    |_,_=>none
   |_=>none
  |_,_,_=>none
 |.entry x =>
  match ρ x with
  |.pointer (some ⟨g0,0,none⟩) =>
   match h.get g0 with
   |some (.rng g seen n) =>
    match h.get g,seen.getLast? with
    |some (.map es),some i =>
     if es.length=n then match es[i]? with
      |some (k,v)=>some (.tuple #[k,v])
      |none=>none
     else none
    |_,_=>none
   |_=>none
  |_=>none
 |.call { callee:=.builtin .len,argTypes,args } =>
  match (argTypes[0]?).bind P.underlying,args.toList.map ρ with
  |some (.map ..),[.map (some g)] =>
   match h.get g with
   |some (.map es)=>some (goInt es.length)
   |_=>none
  |some (.map ..),[.map none]=>some (goInt 0)
  |_,_=>none
 |_=>none
def wK(P:Program)(ρ:Operand->Value)(o:Oper)(h:Heap):Option AObj :=
 match o.op with
 |.range t x =>
  match P.underlying t,ρ x with
  |some (.map ..),.map (some g) =>
   match h.get g with
   |some (.map es)=>some (.rng g [] es.length)
   |_=>none
  |_,_=>none
 |_=>none
def VLe(h:Heap)(v v1:Value):Prop:=∀(N:Nat) (ι:Inj) (w:World) (v':Value),HRel N ι h w->VRel ι v v'->VRel ι v1 v'
theorem VLe.refl(h:Heap)(v:Value):VLe h v v:=λ_ _ _ _ _ r=>r
def OpE(P:Program)(N:Nat)(o:Oper)(e:Env)(h:Heap)(v:Value)(h':Heap):Prop :=
 OpD P N o e h v h'\/(qF P e.eval o h=some v/\h'=h)\/((∃v0,tX P e.eval o=some v0/\VLe h v0 v)/\h'=h)\/(∃ob,wK P e.eval o h=some ob/\v=.pointer (some ⟨h.size,0,none⟩)/\h'=h.push ob)
def lK(P:Program)(N:Nat)(ops:Array Oper):List Oper->Env->Heap->Env->Heap->Prop
 |[],e,h,e',h'=>e'=e/\h'=h
 |o::r,e,h,e',h' =>
  if Region.wanted o (aQ ops e) then ∃v h1,OpE P N o e h v h1/\lK P N ops r (e.put o.dst v) h1 e' h'
  else lK P N ops r (e.put o.dst undef) h e' h'
section
variable {P:Program} {N:Nat} {ι:Inj} {h h':Heap} {w:World}
theorem fT{o:Oper}{e:Env}{a:Act}(H:HRel N ι h w)(r:ERel ι e a)(hok:ig N e.n o=true):∀x∈o.op.operands,VRel ι (e.eval x) (a.eval x):=by
 intro x hx;simp only[ig,L9] at hok;exact r.eval H ((MJ.1 hok.1) x hx)
theorem jU{o:Oper}{n:Nat}(hok:ig N n o=true):∀i,o.dst=some i->i<n:=by
 intro i hi;simp only[ig,L9,hi,decide_eq_true_eq] at hok;exact hok.2
theorem fj{f:FuncId}(hf:lp P f=true)(args:Array Value):(callFunc f args).run P w=.ok (.enter f args) w:=by
 unfold lp at hf
 cases e:P.funcs[f]? with
 |none=>simp[e] at hf
 |some fn =>
  simp only[e,L9,Ox] at hf;obtain⟨h1,h2⟩:=hf
  have h3:fn.body.isNone=false:=by cases q:fn.body <;> simp_all
  simp only[callFunc,Mv,run_program,Mo,e,h2,h3,Nr,if_false,MO]
theorem rG{o:Oper}{e:Env}{a:Act}{v:Value}(H:HRel N ι h w)(hρ:∀x∈o.op.operands,VRel ι (e.eval x) (a.eval x))(hd:OpD P N o e h v h'){K:Act->World->Prop}{Q:Exit->Act->World->Prop}
  (k:∀ι' v' w',VRel ι' v v'->HRel N ι' h' w'->Step N ι h w ι' h' w'->K (a.put o.dst v') w'):o.wp P a w K Q:=by
 unfold OpD at hd;unfold PY
 cases hc:cls o.op with
 |pure =>
  simp only[hc] at hd;obtain⟨h1,rfl⟩:=hd;obtain⟨v',q1,q2⟩:=pd hρ h1;rw[q1 w];exact k ι v' w q2 H (Step.refl w H.dom)
 |read =>
  simp only[hc] at hd;obtain⟨h1,rfl⟩:=hd;obtain⟨v',q1,q2⟩:=lU H hρ h1;rw[q1];exact k ι v' w q2 H (Step.refl w H.dom)
 |new =>
  simp only[hc] at hd;obtain⟨ob,f,h1,rfl,rfl⟩:=hd;obtain⟨o',tot,v',q1,q2⟩:=vv hρ h1 w;rw[q1];have hn:=H.ft;obtain⟨r1,r2⟩:=q2 (ι.add h.size ⟨w.heap.size,0,tot⟩) h.size (Inj.ml hn) (by simp[Inj.add])
  have hnew:=HRel.new H (o:=ob) (l:=⟨w.heap.size,0,tot⟩) (w':=w.alloc o') rfl (ON ..) (λb hb=>by
   show (w.heap.push _)[b]?=w.heap[b]?
   rw[ME]
   have:¬ b=w.heap.size:=by omega
   simp[this]) (by
   have:(w.alloc o').heap[w.heap.size]?=some o':=by
    show (w.heap.push _)[w.heap.size]?=_
    rw[ME];simp
   rw[this];exact r1) ⟨rfl,rfl,rfl,λ_=>LV _⟩ (vr h1)
  exact k _ v' _ r2 hnew.1 hnew.2
 |eff =>
  simp only[hc] at hd;obtain⟨rr,v',w',ι',q1,q2,q3,q4,q5⟩:=Cu H hρ hd;rw[q1]
  rcases q2 with rfl|⟨rfl,rfl⟩
  .exact k ι' v' w' q3 q4 q5
  .exact k ι' undef w' q3 q4 q5
 |call =>
  simp only[hc] at hd;obtain⟨f,vs,h1,h2⟩:=hd;obtain⟨dst,op,type,pos,after,guard⟩:=o
  cases op <;> try (simp[fq] at h1;done)
  rename_i c;obtain⟨callee,args,argTypes⟩:=c
  cases callee <;> try (simp[fq] at h1;done)
  rename_i fv;simp only[fq] at h1;have hfv:=hρ fv (by simp[Mi,NQ]);generalize ef:e.eval fv=y0 at hfv h1;generalize ef':a.eval fv=y1 at hfv
  cases hfv <;> try (simp at h1;done)
  rename_i fn first cap first' cap' s1 s2 g1 g2
  cases fn <;> try (simp at h1;done)
  rename_i f0;simp only[LR,Mn] at h1;obtain⟨rfl,rfl⟩:=h1
  have hargs:bB ι (first++args.map e.eval++cap) (first'++args.map a.eval++cap'):=by
   rw[bB.iK];simp only[OZ];exact ((bB.list ⟨s1,g1⟩).append (bB.map args (λx hx=>hρ x (by simp[Mi,NQ,hx]))).list).append (bB.list ⟨s2,g2⟩)
  have hexec:(execOp a.eval ⟨dst,.call ⟨.value fv,args,argTypes⟩,type,pos,after,guard⟩).run P w=(callFunc f0 (first'++args.map a.eval++cap')).run P w:=by
   simp only[execOp,resolve,Mv,Deferred.ofValue,ef',MO,Mo,invoke]
  rw[hexec]
  rcases h2.2 ι w _ H hargs with⟨hf,hcall⟩|⟨v',q1,q2,rfl⟩
  .rw[fj hf];refine Calls.mono hcall ?_;rintro en w' ⟨ι',v',rfl,q1,q2,q3⟩;exact k ι' v' w' q1 q2 q3
  .rw[q1];exact k ι v' w q2 H (Step.refl w H.dom)
theorem sa{g g' off off':Nat}{l l':Loc}{b:Bool}(H:HRel N ι h w)(hl:ι g=some l)(hl':ι g'=some l')(hb:zG h g off g' off'=some b) :
  (sameAddr ⟨l.blk,l.base+off,none⟩ ⟨l'.blk,l'.base+off',none⟩).run P w=.ok b w:=by
 unfold zG at hb;split at hb
 .rename_i hg;subst hg;rw[hl] at hl'
  cases hl'
  simp only[LR] at hb;subst hb
  have:((⟨l.blk,l.base+off,none⟩:Addr)==⟨l.blk,l.base+off',none⟩)=decide (off=off'):=by
   rw[MW];simp
  simp[sameAddr,this]
 .rename_i hg;split at hb
  .rename_i cs cs' e1 e2;simp only[LR] at hb;subst hb;have hne:l.blk≠l'.blk:=H.apart g g' l l' hl hl' hg ⟨_,e1,rfl⟩ ⟨_,e2,rfl⟩;obtain⟨C,ty,fr,k1,k2,_⟩:=H.obj g l _ hl e1;obtain⟨C',ty',fr',k1',k2',_⟩:=H.obj g' l' _ hl' e2;have f0:=k2 rfl;have f0':=k2' rfl;subst f0 f0'
   have hbne:(l.blk==l'.blk)=false:=by simpa using hne
   simp[sameAddr,hbne,frozen,shape,Pn,World.frozen?,World.shape?,k1,k1',noView,viewAt,mayBeOne,stringish]
  .cases hb
theorem Hy{t el:TypeId}{s n:Nat}{p q:Addr}{b:Bool}(hu:P.underlying t=some (.pointer el))(hs:bb P el=some (s+1))(r:(sameAddr p q).run P w=.ok b w) :
  (OG (n+1) t (.pointer (some p)) (.pointer (some q))).run P w=.ok b w:=by
 simp[OG,ax hu,bg hs,r]
theorem Bx{op:BinOp}{t:TypeId}{u z:Operand}{p q:Addr}:(eqGuard op t u z (.pointer (some p)) (.pointer (some q))).run P w=.ok () w:=by
 unfold eqGuard;simp
theorem ue{t el:TypeId}{s:Nat}{p q:Addr}{b:Bool}(hu:P.underlying t=some (.pointer el))(hs:bb P el=some (s+1))(r:(sameAddr p q).run P w=.ok b w)(u z:Operand) :
  ((do eqGuard .eql t u z (.pointer (some p)) (.pointer (some q));binOp .eql t (.pointer (some p)) (.pointer (some q))):Sem Value).run P w=.ok (.bool b) w/\((do eqGuard .neq t u z (.pointer (some p)) (.pointer (some q));binOp .neq t (.pointer (some p)) (.pointer (some q))):Sem Value).run P w=.ok (.bool !b) w:=by
 have h1:(PE t (.pointer (some p)) (.pointer (some q))).run P w=.ok b w:=Hy (n:=9999) hu hs r;have h2:binOp .eql t (.pointer (some p)) (.pointer (some q))=(do pure (.bool (<- PE t (.pointer (some p)) (.pointer (some q))))):=rfl;have h3:binOp .neq t (.pointer (some p)) (.pointer (some q))=(do pure (.bool (!(<- PE t (.pointer (some p)) (.pointer (some q)))))):=rfl;rw[h2,h3];simp[Bx,h1]
theorem xq{ρ:Operand->Value}{bop:BinOp}{t yt:TypeId}{x y:Operand}(o:Oper)(ho:o.op=.binOp bop t x y yt){v:Value}{w':World}(h:((do eqGuard bop t x y (ρ x) (ρ y);binOp bop t (ρ x) (ρ y)):Sem Value).run P w=.ok v w') :
  (execOp ρ o).run P w=.ok (.value v) w':=by
 obtain⟨dst,op,type,pos,after,guard⟩:=o;simp only at ho;subst ho
 have hd:execOp ρ ⟨dst,.binOp bop t x y yt,type,pos,after,guard⟩=(do let v <- (do eqGuard bop t x y (ρ x) (ρ y);binOp bop t (ρ x) (ρ y):Sem Value);pure (.value v)):=by
  simp[execOp]
 rw[hd,Mv,h];rfl
theorem zF{o:Oper}{ρ ρ':Operand->Value}{v:Value}(H:HRel N ι h w)(hρ:∀x∈o.op.operands,VRel ι (ρ x) (ρ' x))(e:qF P ρ o h=some v) :
  ∃v',(execOp ρ' o).run P w=.ok (.value v') w/\VRel ι v v':=by
 obtain⟨dst,op,type,pos,after,guard⟩:=o;unfold qF at e;split at e
 .rename_i bop t x y yt hop;simp only at hop;subst hop;have hx:=hρ x (by simp[Mi]);have hy:=hρ y (by simp[Mi]);split at e
  .rename_i el g off g' off' hu ex ey;rw[ex] at hx;rw[ey] at hy;generalize ex':ρ' x=x' at hx;generalize ey':ρ' y=y' at hy
   cases hx
   cases hy
   rename_i l hl l' hl';split at e
   .rename_i s hs;split at e
    .rename_i b hb;simp only[LR] at e;subst e;have r:=ue hu hs (sa (P:=P) H hl hl' hb) x y;exact⟨.bool b,xq _ rfl (by rw[ex',ey'];exact r.1),.bool b⟩
    .rename_i b hb;simp only[LR] at e;subst e;have r:=ue hu hs (sa (P:=P) H hl hl' hb) x y;exact⟨.bool !b,xq _ rfl (by rw[ex',ey'];exact r.2),.bool _⟩
    .cases e
   .cases e
  .cases e
 .rename_i x hop;simp only at hop;subst hop;have hx:=hρ x (by simp[Mi]);split at e
  .rename_i g0 ex;rw[ex] at hx;generalize ex':ρ' x=x' at hx
   cases hx
   rename_i l0 hl0;split at e
   .rename_i g seen n hg0;obtain⟨lg,q1,q2,q3⟩:=H.obj g0 l0 _ hl0 hg0;split at e
    .rename_i es i hg hi;split at e
     .rename_i hn;obtain⟨E,c,k1,k2,k3,k4,k5,k6⟩:=H.obj g lg _ q1 hg;split at e
      .rename_i k v0 hes;simp only[LR] at e;subst e;obtain⟨m,m1,m2,m3⟩:=k4 i k v0 hes
       have hs:seen=seen.dropLast++[i]:=by
        obtain⟨hne,hlast⟩:=Pz.1 hi |> λ⟨ys,e⟩=>(⟨by rw[e];simp,⟨ys,e⟩⟩:seen≠[]/\∃ys,seen=ys++[i]);obtain⟨ys,e⟩:=hlast;rw[e];simp
       have hb:m.born=i:=k6 i m m1
       have q2':w.heap[l0.blk]?=some (.mapIter (some lg.blk) n ((⟨seen.dropLast⟩:Array Nat).push m.born) c):=by
        rw[q2,hb,k5,k3,hn];have ha:(⟨seen⟩:Array Nat)=(⟨seen.dropLast⟩:Array Nat).push i:=On (by rw[Array.toList_push];exact hs);rw[ha]
       have nd:(E.toList.map (·.born)).Nodup:=by
        rw[show E.toList.map (·.born)=List.range E.size from MH λt=>by
         rw[L7];by_cases ht:t<E.size
         .have:E.toList[t]?=some E[t]:=by simp[ht]
          rw[this,M7 ht];simp only[MI];rw[k6 t E[t] (Me ht)]
         .rw[Mk (by simpa using ht),Mk (by simpa using ht)];rfl]
        exact Oq
       have r:=run_entry_at (P:=P) w l0.blk lg.blk n (⟨seen.dropLast⟩:Array Nat) E c m q2' k1 (by
        have:=M5 m1
        simpa using this) nd
       have hb0:l0.base+0=0:=by omega
       refine⟨.tuple #[m.key,m.val],?_,.tuple _ _ rfl (ba.cons m2 (ba.cons m3 (ba.nil ι))).array.2⟩;simp only[execOp,ex',hb0];rw[Mv,r];rfl
      .cases e
     .cases e
    .cases e
   .cases e
  .cases e
 .rename_i args argTypes hop;simp only at hop;subst hop
  have hargs:ba ι (args.toList.map ρ) (args.toList.map ρ'):=by
   have:=(bB.map args (λx hx=>hρ x (by simp[Mi,NQ,hx]))).list;simpa using this
  have shape:∀(v0:Value),args.toList.map ρ=[v0]->∃v',VRel ι v0 v'/\(args[0]?).map ρ'=some v':=λv0 hv=>by
   rw[hv] at hargs;have hl1:=hargs.1;have h0:=hargs.2 0
   cases hargs':args.toList.map ρ' with
   |nil=>rw[hargs'] at hl1;simp at hl1
   |cons v' rest =>
    rw[hargs'] at h0;refine⟨v',by simpa using h0,?_⟩
    have ex:args.toList.head?.map ρ'=some v':=by rw[<- Rn,hargs'];rfl
    rw[<- ex]
    cases args with
    |mk l=>cases l <;> simp
  split at e
  .rename_i k0 e0 g hu hl;obtain⟨v',r0,ex0⟩:=shape _ hl
   cases r0
   rename_i l hl'
   cases ha:argTypes[0]? with
   |none=>simp[ha] at hu
   |some t0 =>
    have hu':P.underlying t0=some (.map k0 e0):=by simpa[ha] using hu
    split at e
    .rename_i es hg;simp only[LR] at e;subst e;obtain⟨E,c,k1,k2,k3,k4,k5,k6⟩:=H.obj g l _ hl' hg;exact⟨goInt es.length,by simp[execOp,resolve,invoke,builtin,PV,goInt,ha,ex0,ax hu',getObj,Pn,k1,k3],.int _ _⟩
    .cases e
  .rename_i k0 e0 hu hl;obtain⟨v',r0,ex0⟩:=shape _ hl
   cases r0
   cases ha:argTypes[0]? with
   |none=>simp[ha] at hu
   |some t0 =>
    have hu':P.underlying t0=some (.map k0 e0):=by simpa[ha] using hu
    simp only[LR] at e;subst e;exact⟨goInt 0,by simp[execOp,resolve,invoke,builtin,PV,goInt,ha,ex0,ax hu'],.int _ _⟩
  .cases e
 .cases e
theorem zh{o:Oper}{ρ ρ':Operand->Value}{ob:AObj}(H:HRel N ι h w)(hρ:∀x∈o.op.operands,VRel ι (ρ x) (ρ' x))(e:wK P ρ o h=some ob) :
  (∃o',(execOp ρ' o).run P w=.ok (.value (.pointer (some ⟨w.heap.size,0,none⟩))) (w.alloc o')/\∀ι1,Inj.Le ι ι1->iL ι1 ⟨w.heap.size,0,0⟩ ob (some o'))/\ob.mut=true:=by
 obtain⟨dst,op,type,pos,after,guard⟩:=o;unfold wK at e;split at e
 .rename_i t x hop;simp only at hop;subst hop;have hx:=hρ x (by simp[Mi]);split at e
  .rename_i k0 e0 g hu ex;rw[ex] at hx;generalize ex':ρ' x=x' at hx
   cases hx
   rename_i l hl;split at e
   .rename_i es hg;simp only[LR] at e;subst e;obtain⟨E,c,k1,k2,k3,k4,k5,k6⟩:=H.obj g l _ hl hg;refine⟨⟨.mapIter (some l.blk) c #[] c,?_,λι1 le=>⟨l,le.at_ _ _ hl,by rw[k5,k3],rfl⟩⟩,rfl⟩;simp only[execOp,ex'];rw[Mv,run_range_map w t k0 e0 l.blk E c hu k1];rfl
   .cases e
  .cases e
 .cases e
theorem yO{o:Oper}{e:Env}{a:Act}{v:Value}(H:HRel N ι h w)(hρ:∀x∈o.op.operands,VRel ι (e.eval x) (a.eval x))(hd:OpE P N o e h v h'){K:Act->World->Prop}{Q:Exit->Act->World->Prop}
  (k:∀ι' v' w',VRel ι' v v'->HRel N ι' h' w'->Step N ι h w ι' h' w'->K (a.put o.dst v') w'):o.wp P a w K Q:=by
 rcases hd with hd|⟨h1,rfl⟩|⟨⟨v0,h1,hle⟩,rfl⟩|⟨ob,h1,rfl,rfl⟩
 rotate_right
 .unfold PY;obtain⟨⟨o',q1,q2⟩,hm⟩:=zh H hρ h1;rw[q1];have hn:=H.ft
  have hnew:=HRel.new H (o:=ob) (l:=⟨w.heap.size,0,0⟩) (w':=w.alloc o') rfl (ON ..) (λb hb=>by
   show (w.heap.push _)[b]?=w.heap[b]?
   rw[ME]
   have:¬ b=w.heap.size:=by omega
   simp[this]) (by
   have:(w.alloc o').heap[w.heap.size]?=some o':=by
    show (w.heap.push _)[w.heap.size]?=_
    rw[ME];simp
   rw[this];exact q2 _ (Inj.ml hn)) ⟨rfl,rfl,rfl,λ_=>LV _⟩ (λcs q=>by rw[q] at hm;cases hm)
  exact k _ _ _ (.ptr h.size 0 ⟨w.heap.size,0,0⟩ (by simp[Inj.add])) hnew.1 hnew.2
 .exact rG H hρ hd k
 .unfold PY;obtain⟨v',q1,q2⟩:=zF H hρ h1;rw[q1];exact k ι v' w q2 H (Step.refl w H.dom)
 .unfold PY;obtain⟨v',w',ι',q1,q2,q3,q4⟩:=AO H hρ h1;rw[q1];exact k ι' v' w' (hle N ι' w' v' q3 q2) q3 q4
theorem qq{s b n len cap:Nat}{z v:Value}{new:List Value}{base:Option Addr}(e:dI h h.size s b z n new base len cap=some (v,h')):h.size<=h'.size:=by
 unfold dI at e;split at e
 .split at e
  .cases e;exact LV _
  .cases e
 .split at e
  .split at e
   .split at e
    .split at e
     .cases e;exact LV _
     .cases e
    .cases e
   .cases e
  .split at e
   .split at e
    .cases e;exact NB _
    .split at e
     .split at e
      .cases e;exact NB _
      .cases e
     .cases e
    .split at e
     .split at e
      .cases e;exact NB _
      .cases e
     .cases e
   .cases e
theorem A3{n len:Nat}{v:Value}{new:List Value}{base:Option Addr}(e:pj h n new base len=some (v,h')):h.size<=h'.size:=by
 unfold pj at e;split at e
 .cases e;exact LV _
 .split at e
  .cases e
  .split at e
   .split at e
    .cases e;exact LV _
    .cases e
   .cases e
theorem zp{len:Nat}{v:Value}{new:List Value}{base:Option Addr}(e:lX h new base len=some (v,h')):h.size<=h'.size:=by
 unfold lX at e;split at e
 .cases e;exact LV _
 .split at e
  .cases e
  .split at e
   .split at e
    .cases e;exact LV _
    .cases e
   .cases e
theorem ED{ρ:Operand->Value}{o:Oper}{v:Value}(e:cZ P ρ o h=some (v,h')):h.size<=h'.size:=by
 unfold cZ fa at e;split at e
 .split at e
  .split at e
   .split at e
    .cases e;exact LV _
    .cases e
   .cases e
  .cases e
 .split at e
  .split at e
   .split at e
    .split at e
     .split at e
      .cases e
      .exact qq e
     .cases e
    .cases e
   .cases e
  .split at e
   .split at e
    .split at e
     .split at e
      .cases e;exact LV _
      .cases e
     .cases e
    .cases e
   .cases e
  .split at e
   .split at e
    .split at e
     .split at e
      .cases e;exact LV _
      .split at e
       .cases e
       .exact qq e
     .cases e
    .cases e
   .cases e
  .split at e
   .split at e
    .split at e
     .exact A3 e
     .cases e
    .cases e
   .cases e
  .split at e
   .split at e
    .split at e
     .exact zp e
     .cases e
    .cases e
   .cases e
  .cases e
 .unfold zP at e;split at e
  .split at e
   .split at e
    .cases e;exact LV _
    .cases e;exact LV _
   .cases e
  .cases e
 .split at e
  .split at e
   .split at e
    .unfold A0 at e;split at e
     .split at e
      .split at e
       .cases e;exact LV _
       .cases e;exact LV _
       .cases e
      .cases e
     .cases e
    .cases e
   .cases e
  .cases e
 .split at e
  .split at e
   .split at e
    .split at e
     .unfold yr at e;split at e
      .split at e
       .split at e
        .cases e;exact LV _
        .cases e;exact LV _
        .cases e
       .cases e
      .cases e
     .cases e
    .cases e
   .cases e
  .cases e
 .unfold xr at e;split at e
  .split at e
   .split at e
    .split at e
     .cases e;exact LV _
     .cases e
    .cases e
   .cases e
  .cases e
 .cases e
theorem OpD.size{o:Oper}{e:Env}{v:Value}(hd:OpD P N o e h v h'):h.size<=h'.size:=by
 unfold OpD at hd
 cases hc:cls o.op with
 |pure=>simp only[hc] at hd;rw[hd.2];exact LV _
 |read=>simp only[hc] at hd;rw[hd.2];exact LV _
 |new=>simp only[hc] at hd;obtain⟨_,_,_,_,rfl⟩:=hd;exact NB _
 |eff=>simp only[hc] at hd;exact ED hd
 |call=>simp only[hc] at hd;obtain⟨_,_,_,hd⟩:=hd;exact hd.1
theorem OpE.size{o:Oper}{e:Env}{v:Value}(hd:OpE P N o e h v h'):h.size<=h'.size:=by
 rcases hd with hd|⟨_,rfl⟩|⟨_,rfl⟩|⟨_,_,_,rfl⟩
 rotate_right
 .exact NB _
 .exact hd.size
 .exact LV _
 .exact LV _
theorem lK.size{ops:Array Oper}:∀{l:List Oper}{e e':Env}{h h':Heap},lK P N ops l e h e' h'->h.size<=h'.size
 |[],_,_,_,_,hr=>by obtain⟨_,rfl⟩:=hr;exact LV _
 |o::l,e,e',h,h',hr=>by
  unfold lK at hr;split at hr
  .obtain⟨v,h1,hd,hr⟩:=hr;exact Mf hd.size hr.size
  .exact hr.size
theorem lK.n{ops:Array Oper}:∀{l:List Oper}{e e':Env}{h h':Heap},lK P N ops l e h e' h'->e'.n=e.n
 |[],_,_,_,_,hr=>by obtain⟨rfl,_⟩:=hr;rfl
 |o::l,e,e',h,h',hr=>by
  unfold lK at hr;split at hr
  .obtain⟨v,h1,hd,hr⟩:=hr;rw[hr.n,Env.er]
  .rw[hr.n,Env.er]
theorem jM{rest:List Nat}{ops:Array Oper}{Q:Exit->Act->World->Prop}:∀(l:List Oper) (i:Nat),(∀(j:Nat) (x:Oper),l[j]?=some x->ops[i+j]?=some x)->∀(ι:Inj) (e:Env) (a:Act) (h:Heap) (w:World) (e':Env) (h':Heap),jI N e.n ops=true ->
  lK P N ops l e h e' h'->HRel N ι h w->ERel ι e a->(∀ι' a' w',ERel ι' e' a'->HRel N ι' h' w'->Step N ι h w ι' h' w'->wpOps P ops Q rest a' w')->wpOps P ops Q (PO i l.length++rest) a w
 |[],i,_,ι,e,a,h,w,e',h',_,hr,H,r,k=>by
  obtain⟨rfl,rfl⟩:=hr;exact k ι a w r H (Step.refl w H.dom)
 |o::l,i,hl,ι,e,a,h,w,e',h',hok,hr,H,r,k=>by
  have ho:ops[i]?=some o:=by have:=hl 0 o;simpa using this
  have hmem:o∈ops.toList:=Nl.2 (M5 ho);have hoko:=(Md.1 hok) o hmem
  have hl':∀(j:Nat) (x:Oper),l[j]?=some x->ops[i+1+j]?=some x:=λj x hx=>by have:=hl (j+1) x (by simpa using hx);simpa[Nm,OQ 1 j] using this
  simp only[M8,Q5,Qd];rw[wpOps_cons];unfold wpOp;simp only[ho];unfold lK at hr;have hy:yielded ops a.tmps=aQ ops e:=funext (tY r hok);rw[hy];split at hr
  .rename_i hw;rw[if_pos hw];obtain⟨v,h1,hd,hr⟩:=hr;refine .inl (yO H (fT H r hoko) hd λι' v' w' q1 q2 q3=>?_);exact jM l (i+1) hl' ι' _ _ h1 w' e' h' (by rw[Env.er];exact hok) hr q2 ((r.mono q3.ext).put (jU hoko) q1) λι'' a' w'' r1 r2 r3=>k ι'' a' w'' r1 r2 (q3.trans r3)
  .rename_i hw;rw[if_neg hw];exact jM l (i+1) hl' ι _ _ h w e' h' (by rw[Env.er];exact hok) hr H (r.put (jU hoko) (VRel.nothing ι)) k
theorem yo{ops:Array Oper}{Q:Exit->Act->World->Prop}(l:List Oper)(i:Nat)(hl:∀j,l[j]?=ops[i+j]?)(ι:Inj)(e:Env)(a:Act)(h:Heap)(w:World)(e':Env)(h':Heap)(hok:jI N e.n ops=true)
  (hr:lK P N ops l e h e' h') (H:HRel N ι h w) (r:ERel ι e a) (k:∀ι' a' w',ERel ι' e' a'->HRel N ι' h' w'->Step N ι h w ι' h' w'->Q .normal a' w'):wpOps P ops Q (PO i l.length) a w:=by
 have:=jM (rest:=[]) (Q:=Q) l i (λj x hx=>by rw[<- hl j];exact hx) ι e a h w e' h' hok hr H r k;rwa [MZ] at this
end
end Go.Abs
