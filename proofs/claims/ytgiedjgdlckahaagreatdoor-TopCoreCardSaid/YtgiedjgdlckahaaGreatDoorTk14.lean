/-
  AbsM: parts of the proof.
-/
import Derived.Test.YtgiedjgdlckahaaGreatDoorTk13
import Derived.Scope
namespace Go.Abs
def CodeD (P:Program) (N:Nat) (c:Code) (e:Env) (h:Heap) (ex:Exit) (e':Env) (h':Heap):Prop :=
 (h.size<=h'.size/\e'.n=e.n)/\∀ ι w a,HRel N ι h w->ERel ι e a->c.wp P (fun x a' w'=>x=ex/\∃ ι',ERel ι' e' a'/\HRel N ι' h' w'/\Step ι h w ι' h' w') a w
section
variable {P:Program} {N:Nat} {e e1 e2:Env} {h h1 h2:Heap} {ex:Exit}
theorem CodeD.skip:CodeD P N .skip e h .normal e h:=⟨⟨Nat.le_refl _,rfl⟩,fun _ w _ H r=>wp_skip ⟨rfl,_,r,H,Step.refl w H.dom⟩⟩
theorem CodeD.label {l:Nat}:CodeD P N (.label l) e h .normal e h:=⟨⟨Nat.le_refl _,rfl⟩,fun _ w _ H r=>wp_label ⟨rfl,_,r,H,Step.refl w H.dom⟩⟩
theorem CodeD.exit {id:Nat}:CodeD P N (.exit id) e h (.exit id) e h:=⟨⟨Nat.le_refl _,rfl⟩,fun _ w _ H r=>wp_exit ⟨rfl,_,r,H,Step.refl w H.dom⟩⟩
theorem CodeD.ret:CodeD P N .ret e h .ret e h:=⟨⟨Nat.le_refl _,rfl⟩,fun _ w _ H r=>wp_ret ⟨rfl,_,r,H,Step.refl w H.dom⟩⟩
theorem CodeD.seq {x y:Code} (hx:CodeD P N x e h .normal e1 h1) (hy:CodeD P N y e1 h1 ex e2 h2):CodeD P N (.seq x y) e h ex e2 h2:=by
 refine⟨⟨Nat.le_trans hx.1.1 hy.1.1,hy.1.2.trans hx.1.2⟩,?_⟩;intro ι w a H r;refine wp_seq (wp_mono (hx.2 ι w a H r) ?_);rintro x' a' w' ⟨rfl,ι',r',H',s⟩;refine wp_mono (hy.2 ι' w' a' H' r') ?_;rintro x'' a'' w'' ⟨rfl,ι'',r'',H'',s'⟩;exact⟨rfl,ι'',r'',H'',s.trans s'⟩
theorem CodeD.mO {x y:Code} (hx:CodeD P N x e h ex e1 h1) (hne:ex≠.normal):CodeD P N (.seq x y) e h ex e1 h1:=by
 refine⟨hx.1,?_⟩;intro ι w a H r;refine wp_seq (wp_mono (hx.2 ι w a H r) ?_);rintro x' a' w' ⟨rfl,q⟩
 cases x' <;> first|exact absurd rfl hne|exact⟨rfl,q⟩
theorem CodeD.cond {c:Operand}{x y:Code}{t:Bool} (hok:okOpd N e.n c=true) (hc:e.eval c=.bool t) (hx:CodeD P N (match t with|true=>x|false=>y) e h ex e1 h1):CodeD P N (.cond c x y) e h ex e1 h1:=by
 refine⟨hx.1,?_⟩;intro ι w a H r;have q:=r.eval H hok;rw[hc] at q;have q':a.eval c=.bool t:=q.bH rfl
 cases t
 ·exact wp_cond_false q' (hx.2 ι w a H r)
 ·exact wp_cond_true q' (hx.2 ι w a H r)
theorem uh {id id':Nat} (hne:id'≠id) {Q:Exit->Act->World->Prop}{a:Act}{w:World}:Exit.inBlock id Q (.exit id') a w=Q (.exit id') a w:=by
 show (if id'=id then _ else _)=_
 rw[if_neg hne]
theorem uz {id:Nat}{Q:Exit->Act->World->Prop}{a:Act}{w:World}:Exit.inBlock id Q (.exit id) a w=Q .normal a w:=by
 show (if id=id then _ else _)=_
 rw[if_pos rfl]
theorem CodeD.block {id:Nat}{c:Code} (hc:CodeD P N c e h ex e1 h1) (hne:ex≠.exit id):CodeD P N (.block id c) e h ex e1 h1:=by
 refine⟨hc.1,?_⟩;intro ι w a H r;refine wp_block (wp_mono (hc.2 ι w a H r) ?_);rintro x' a' w' ⟨rfl,q⟩
 cases x' <;> try exact⟨rfl,q⟩
 rename_i id';rw[uh (fun e=>hne (by rw[e]))];exact⟨rfl,q⟩
theorem CodeD.tB {id:Nat}{c:Code} (hc:CodeD P N c e h (.exit id) e1 h1):CodeD P N (.block id c) e h .normal e1 h1:=by
 refine⟨hc.1,?_⟩;intro ι w a H r;refine wp_block (wp_mono (hc.2 ι w a H r) ?_);rintro x' a' w' ⟨rfl,q⟩;rw[uz];exact⟨rfl,q⟩
theorem CodeD.scope {c:Code} (hc:CodeD P N c e h ex e1 h1) (hne:∀ l,ex≠.goto l):CodeD P N (.scope c) e h ex e1 h1:=by
 refine⟨hc.1,?_⟩;intro ι w a H r;refine wp_scope_straight (wp_mono (hc.2 ι w a H r) ?_);rintro x' a' w' ⟨rfl,q⟩
 cases x' <;> first|exact⟨rfl,q⟩|exact absurd rfl (hne _)
def ic (P:Program) (N:Nat) (c:Code) (n:Nat) (e:Env) (h:Heap) (ex:Exit) (e':Env) (h':Heap):Prop :=
 (h.size<=h'.size/\e'.n=e.n)/\∀ ι w a,HRel N ι h w->ERel ι e a->Code.rounds P c (fun x a' w'=>x=ex/\∃ ι',ERel ι' e' a'/\HRel N ι' h' w'/\Step ι h w ι' h' w') n a w
theorem rT {c:Code}{Q Q':Exit->Act->World->Prop} (hq:∀ x a w,Q x a w->Q' x a w):∀ (n:Nat) (a:Act) (w:World),Code.rounds P c Q n a w->Code.rounds P c Q' n a w
 |0,_,_,hr=>hr
 |n+1,a,w,hr=>by
  rw[rounds_succ] at hr ⊢;refine wp_mono hr ?_;intro x a' w' q
  cases x <;> first|exact hq _ _ _ q|exact rT hq n a' w' q
theorem ic.more {c:Code}{n:Nat} (hc:CodeD P N c e h .normal e1 h1) (hr:ic P N c n e1 h1 ex e2 h2):ic P N c (n+1) e h ex e2 h2:=by
 refine⟨⟨Nat.le_trans hc.1.1 hr.1.1,hr.1.2.trans hc.1.2⟩,?_⟩;intro ι w a H r;rw[rounds_succ];refine wp_mono (hc.2 ι w a H r) ?_;rintro x' a' w' ⟨rfl,ι',r',H',s⟩;refine rT ?_ n a' w' (hr.2 ι' w' a' H' r');rintro x'' a'' w'' ⟨rfl,ι'',r'',H'',s'⟩;exact⟨rfl,ι'',r'',H'',s.trans s'⟩
theorem ic.last {c:Code} (hc:CodeD P N c e h ex e1 h1) (hne:ex≠.normal):ic P N c 1 e h ex e1 h1:=by
 refine⟨hc.1,?_⟩;intro ι w a H r;rw[rounds_succ];refine wp_mono (hc.2 ι w a H r) ?_;rintro x' a' w' ⟨rfl,q⟩
 cases x' <;> first|exact absurd rfl hne|exact⟨rfl,q⟩
theorem CodeD.loop {c:Code}{n:Nat} (hr:ic P N c n e h ex e1 h1):CodeD P N (.loop c) e h ex e1 h1 :=
 ⟨hr.1,fun ι w a H r=>wp_loop_rounds n (hr.2 ι w a H r)⟩
theorem CodeD.region {id:Nat}{ops:Array Oper} (hok:jN N e.n ops=true) (hr:RegD P N ops ops.toList e h e1 h1):CodeD P N (.region id ops false) e h .normal e1 h1:=by
 refine⟨⟨hr.size,hr.n⟩,?_⟩;intro ι w a H r;refine wp_region ?_;have:=DO (Q:=fun x a' w'=>x=.normal/\∃ ι',ERel ι' e1 a'/\HRel N ι' h1 w'/\Step ι h w ι' h1 w') ops.toList 0 (fun j=>by simp) ι e a h w e1 h1 hok hr H r (fun ι' a' w' q1 q2 q3=>⟨rfl,ι',q1,q2,q3⟩);rw[List.range_eq_range'];simpa using this
end
def pe:List Value->Nat->Env->Env
 |[],_,e=>e
 |v::vs,i,e=>pe vs (i+1) (e.set i v)
def dN (n:Nat) (vs:Array Value):Env:=pe vs.toList 0 ⟨n,.nil,fun _=>undef⟩
theorem uB:∀ (vs:List Value) (i:Nat) (e:Env) (j:Nat),(pe vs i e).get j=if i<=j/\j<i+vs.length then vs.getD (j-i) undef else e.get j
 |[],i,e,j=>by
  have:¬ (i<=j/\j<i+0):=by omega
  unfold pe;rw[List.length_nil,if_neg this]
 |v::vs,i,e,j=>by
  unfold pe;rw[uB vs (i+1) _ j,Env.dq];by_cases c:i=j
  ·subst c
   have n1:¬ (i+1<=i/\i<i+1+vs.length):=by omega
   have n2:i<=i/\i<i+(vs.length+1):=by omega
   rw[if_neg n1,if_pos rfl,List.length_cons,if_pos n2];simp
  ·by_cases c2:i+1<=j/\j<i+1+vs.length
   ·have:i<=j/\j<i+(vs.length+1):=by omega
    rw[if_pos c2,List.length_cons,if_pos this]
    have:j-i=(j-(i+1))+1:=by omega
    rw[this];simp
   ·have:¬ (i<=j/\j<i+(vs.length+1)):=by omega
    rw[if_neg c2,if_neg (Ne.symm c),List.length_cons,if_neg this]
theorem Ae:∀ (vs:List Value) (i:Nat) (e:Env),(pe vs i e).n=e.n
 |[],_,_=>rfl
 |_::vs,i,e=>by unfold pe;rw[Ae vs];rfl
theorem rV (n:Nat) (vs:Array Value) (j:Nat):(dN n vs).get j=vs.getD j undef:=by
 unfold dN;rw[uB];simp only[Nat.zero_le,true_and,Nat.zero_add,Nat.sub_zero];split
 ·rw[dW]
 ·rename_i hj;rw[Array.getD_eq_getD_getElem?,Array.getElem?_eq_none (by simpa using hj)];rfl
theorem kR (n:Nat) (vs:Array Value):(dN n vs).n=n:=Ae _ _ _
def iz (P:Program) (e:Env) (h:Heap):ResultVar->Option Value
 |.tmp t=>if t<e.n then some (e.get t) else none
 |.cell a t =>
  if a<e.n then
   match e.get a with
   |.pointer (some ⟨g,off,none⟩)=>kT P h t g off
   |_=>none
  else none
def eO (P:Program) (e:Env) (h:Heap):List ResultVar->Option (List Value)
 |[]=>some []
 |r::rs =>
  match iz P e h r,eO P e h rs with
  |some v,some vs=>some (v::vs)
  |_,_=>none
def ke (P:Program) (fn:Func) (e:Env) (h:Heap):Option Value :=
 match eO P e h fn.results.toList with
 |some [v]=>some v
 |some vs=>some (.tuple vs.toArray)
 |none=>none
section
variable {P:Program} {N:Nat} {ι:Inj} {e:Env} {a:Act} {h:Heap} {w:World}
def yo (tmps:Array Value):ResultVar->Sem Value
 |.tmp t=>pure (tmps.getD t undef)
 |.cell b t=>do loadVar t (<- asAddr (tmps.getD b undef))
theorem tY (fn:Func) (tmps:Array Value):results fn tmps=(do
  let vs <- fn.results.mapM (yo tmps)
  pure (if h:vs.size=1 then vs[0] else .tuple vs)):=by
 unfold results;congr 1
theorem vy (H:HRel N ι h w) (r:ERel ι e a) {x:ResultVar}{v:Value} (hv:iz P e h x=some v) :
  ∃ v',(yo a.tmps x).run P w=.ok v' w/\VRel ι v v':=by
 cases x with
 |tmp t =>
  simp only[iz] at hv;split at hv
  ·rename_i ht
   cases hv
   exact⟨_,rfl,r.get t ht⟩
  ·cases hv
 |cell b t =>
  simp only[iz] at hv;split at hv
  ·rename_i hb;have q:=r.get b hb;generalize e.get b=u at q hv;generalize hu':a.tmps.getD b undef=u' at q
   cases q <;> try (simp at hv;done)
   rename_i g off l hl;obtain⟨v',q1,q2⟩:=nB H hl hv;refine⟨v',?_,q2⟩;simp only[yo,hu',asAddr,Sem.run_bind,Sem.run_pure,Result.andThen_ok];exact q1
  ·cases hv
theorem mc (H:HRel N ι h w) (r:ERel ι e a):∀ (rs:List ResultVar) (vs:List Value),eO P e h rs=some vs ->
  ∃ vs',(rs.mapM (yo a.tmps)).run P w=.ok vs' w/\aS ι vs vs'
 |[],vs,hv=>by
  simp only[eO,Option.some.injEq] at hv;subst hv;exact⟨[],by simp,aS.nil ι⟩
 |x::rs,vs,hv=>by
  simp only[eO] at hv;split at hv
  ·rename_i v vs0 h1 h2;simp only[Option.some.injEq] at hv;subst hv;obtain⟨v',q1,q2⟩:=vy H r h1;obtain⟨vs',q3,q4⟩:=mc H r rs vs0 h2;refine⟨v'::vs',?_,aS.cons q2 q4⟩;simp only[List.mapM_cons,Sem.run_bind,q1,Result.andThen_ok,q3,Sem.run_pure]
  ·cases hv
theorem mH {fn:Func} (H:HRel N ι h w) (r:ERel ι e a) {v:Value} (hv:ke P fn e h=some v):∃ v',(results fn a.tmps).run P w=.ok v' w/\VRel ι v v':=by
 unfold ke at hv
 cases hl:eO P e h fn.results.toList with
 |none=>simp[hl] at hv
 |some vs =>
  rw[hl] at hv;obtain⟨vs',q1,q2⟩:=mc H r _ _ hl
  have hrun:(results fn a.tmps).run P w=.ok (if h:vs'.toArray.size=1 then vs'.toArray[0] else .tuple vs'.toArray) w:=by
   rw[tY,Array.mapM_eq_mapM_toList,Sem.run_bind,Sem.run_map];rw[q1];rfl
  rw[hrun]
  match vs,hv,q2 with
  |[],hv,q2 =>
   simp only[Option.some.injEq] at hv;subst hv;have:vs'=[]:=q2.rz rfl;subst this;exact⟨_,rfl,.unit⟩
  |[u],hv,q2 =>
   simp only[Option.some.injEq] at hv;subst hv;have hlen:=q2.1
   match vs',hlen,q2 with
   |[u'],_,q2 =>
    refine⟨_,rfl,?_⟩;have:=q2.2 0;simpa using this
  |u1::u2::us,hv,q2 =>
   simp only[Option.some.injEq] at hv;subst hv;have hlen:=q2.1
   have hne:¬ vs'.toArray.size=1:=by simp at hlen ⊢;omega
   rw[dif_neg hne];exact⟨_,rfl,.tuple _ _ q2.array.1 q2.array.2⟩
end
theorem CallD.body {P:Program}{N:Nat}{f:FuncId}{fn:Func}{c:Code}{vs:Array Value}{h h':Heap}{ex:Exit}{e':Env}{v:Value} (hf:P.funcs[f]?=some fn) (hb:fn.body=some c) (hn:fnOk P f=true)
  (hs:vs.size<=fn.ntmps) (hx:ex=.normal\/ex=.ret) (hc:CodeD P N c (dN fn.ntmps vs) h ex e' h') (hv:ke P fn e' h'=some v):CallD P N f vs h v h':=by
 refine⟨hc.1.1,?_⟩;intro ι w vs' H r;refine .inl ⟨hn,calls_of_wp hf hb ?_⟩
 have hr:ERel ι (dN fn.ntmps vs) { tmps:=vs'++Array.replicate (fn.ntmps-vs'.size) undef,defers:=[] }:=by
  refine⟨rfl,?_,fun t _=>?_⟩
  ·rw[kR];simp;have:=r.1;omega
  ·rw[rV];have q:=r.2 t;by_cases ht:t<vs'.size
   ·have:(vs'++Array.replicate (fn.ntmps-vs'.size) undef).getD t undef=vs'.getD t undef:=by
     rw[Array.getD_eq_getD_getElem?,Array.getD_eq_getD_getElem?,Array.getElem?_append_left ht]
    rw[this];exact q
   ·have e1:(vs'++Array.replicate (fn.ntmps-vs'.size) undef).getD t undef=undef:=by
     rw[Array.getD_eq_getD_getElem?,Array.getElem?_append_right (by omega),Array.getElem?_replicate]
     split <;> rfl
    have e2:vs.getD t undef=undef:=by
     rw[Array.getD_eq_getD_getElem?,Array.getElem?_eq_none (by have:=r.1;omega)];rfl
    rw[e1,e2];exact VRel.nothing ι
 refine wp_mono (hc.2 ι w _ H hr) ?_;rintro x a' w' ⟨rfl,ι',r',H',s⟩;obtain⟨v',q1,q2⟩:=mH H' r' hv
 rcases hx with rfl|rfl
 ·exact⟨r'.defers,v',q1,ι',v',rfl,q2,H',s⟩
 ·exact⟨r'.defers,v',q1,ι',v',rfl,q2,H',s⟩
end Go.Abs
