/- Parts of the proof. -/
import Derived.Test.YtglgdkineobbeaaGreatDoorTn13
import Derived.Scope
open Array renaming replicate->Nh
open Go.Code renaming rounds->Qi
open Go.Exit renaming inBlock->Qx
open Go.Result renaming andThen_ok->Mo
open Go.Sem renaming run_bind->Mv,run_pure->MO
namespace Go.Abs
def aN(P:Program)(N:Nat)(c:Code)(e:Env)(h:Heap)(ex:Exit)(e':Env)(h':Heap):Prop :=
 (h.size<=h'.size/\e'.n=e.n)/\∀ι w a,HRel N ι h w->ERel ι e a->c.wp P (λx a' w'=>x=ex/\∃ι',ERel ι' e' a'/\HRel N ι' h' w'/\Step N ι h w ι' h' w') a w
section
variable {P:Program} {N:Nat} {e e1 e2:Env} {h h1 h2:Heap} {ex:Exit}
theorem aN.skip:aN P N .skip e h .normal e h:=⟨⟨LV _,rfl⟩,λ_ w _ H r=>wp_skip ⟨rfl,_,r,H,Step.refl w H.dom⟩⟩
theorem aN.label{l:Nat}:aN P N (.label l) e h .normal e h:=⟨⟨LV _,rfl⟩,λ_ w _ H r=>wp_label ⟨rfl,_,r,H,Step.refl w H.dom⟩⟩
theorem aN.exit{id:Nat}:aN P N (.exit id) e h (.exit id) e h:=⟨⟨LV _,rfl⟩,λ_ w _ H r=>wp_exit ⟨rfl,_,r,H,Step.refl w H.dom⟩⟩
theorem aN.ret:aN P N .ret e h .ret e h:=⟨⟨LV _,rfl⟩,λ_ w _ H r=>wp_ret ⟨rfl,_,r,H,Step.refl w H.dom⟩⟩
theorem aN.seq{x y:Code}(hx:aN P N x e h .normal e1 h1)(hy:aN P N y e1 h1 ex e2 h2):aN P N (.seq x y) e h ex e2 h2:=by
 refine⟨⟨Mf hx.1.1 hy.1.1,hy.1.2.trans hx.1.2⟩,?_⟩;intro ι w a H r;refine wp_seq (wp_mono (hx.2 ι w a H r) ?_);rintro x' a' w' ⟨rfl,ι',r',H',s⟩;refine wp_mono (hy.2 ι' w' a' H' r') ?_;rintro x'' a'' w'' ⟨rfl,ι'',r'',H'',s'⟩;exact⟨rfl,ι'',r'',H'',s.trans s'⟩
theorem aN.oV{x y:Code}(hx:aN P N x e h ex e1 h1)(hne:ex≠.normal):aN P N (.seq x y) e h ex e1 h1:=by
 refine⟨hx.1,?_⟩;intro ι w a H r;refine wp_seq (wp_mono (hx.2 ι w a H r) ?_);rintro x' a' w' ⟨rfl,q⟩
 cases x' <;> first|exact absurd rfl hne|exact⟨rfl,q⟩
theorem aN.cond{c:Operand}{x y:Code}{t:Bool}(hok:lY N e.n c=true)(hc:e.eval c=.bool t)(hx:aN P N (match t with|true=>x|false=>y) e h ex e1 h1):aN P N (.cond c x y) e h ex e1 h1:=by
 refine⟨hx.1,?_⟩;intro ι w a H r;have q:=r.eval H hok;rw[hc] at q;have q':a.eval c=.bool t:=q.bZ rfl
 cases t
 .exact wp_cond_false q' (hx.2 ι w a H r)
 .exact wp_cond_true q' (hx.2 ι w a H r)
theorem qR{id id':Nat}(hne:id'≠id){Q:Exit->Act->World->Prop}{a:Act}{w:World}:Qx id Q (.exit id') a w=Q (.exit id') a w:=by
 show (if id'=id then _ else _)=_
 rw[if_neg hne]
theorem qu{id:Nat}{Q:Exit->Act->World->Prop}{a:Act}{w:World}:Qx id Q (.exit id) a w=Q .normal a w:=by
 show (if id=id then _ else _)=_
 rw[if_pos rfl]
theorem aN.block{id:Nat}{c:Code}(hc:aN P N c e h ex e1 h1)(hne:ex≠.exit id):aN P N (.block id c) e h ex e1 h1:=by
 refine⟨hc.1,?_⟩;intro ι w a H r;refine wp_block (wp_mono (hc.2 ι w a H r) ?_);rintro x' a' w' ⟨rfl,q⟩
 cases x' <;> try exact⟨rfl,q⟩
 rename_i id';rw[qR (λe=>hne (by rw[e]))];exact⟨rfl,q⟩
theorem aN.vL{id:Nat}{c:Code}(hc:aN P N c e h (.exit id) e1 h1):aN P N (.block id c) e h .normal e1 h1:=by
 refine⟨hc.1,?_⟩;intro ι w a H r;refine wp_block (wp_mono (hc.2 ι w a H r) ?_);rintro x' a' w' ⟨rfl,q⟩;rw[qu];exact⟨rfl,q⟩
theorem aN.scope{c:Code}(hc:aN P N c e h ex e1 h1)(hne:∀l,ex≠.goto l):aN P N (.scope c) e h ex e1 h1:=by
 refine⟨hc.1,?_⟩;intro ι w a H r;refine wp_scope_straight (wp_mono (hc.2 ι w a H r) ?_);rintro x' a' w' ⟨rfl,q⟩
 cases x' <;> first|exact⟨rfl,q⟩|exact absurd rfl (hne _)
def jJ(P:Program)(N:Nat)(c:Code)(n:Nat)(e:Env)(h:Heap)(ex:Exit)(e':Env)(h':Heap):Prop :=
 (h.size<=h'.size/\e'.n=e.n)/\∀ι w a,HRel N ι h w->ERel ι e a->Qi P c (λx a' w'=>x=ex/\∃ι',ERel ι' e' a'/\HRel N ι' h' w'/\Step N ι h w ι' h' w') n a w
theorem oS{c:Code}{Q Q':Exit->Act->World->Prop}(hq:∀x a w,Q x a w->Q' x a w):∀(n:Nat) (a:Act) (w:World),Qi P c Q n a w->Qi P c Q' n a w
 |0,_,_,hr=>hr
 |n+1,a,w,hr=>by
  rw[rounds_succ] at hr ⊢;refine wp_mono hr ?_;intro x a' w' q
  cases x <;> first|exact hq _ _ _ q|exact oS hq n a' w' q
theorem jJ.more{c:Code}{n:Nat}(hc:aN P N c e h .normal e1 h1)(hr:jJ P N c n e1 h1 ex e2 h2):jJ P N c (n+1) e h ex e2 h2:=by
 refine⟨⟨Mf hc.1.1 hr.1.1,hr.1.2.trans hc.1.2⟩,?_⟩;intro ι w a H r;rw[rounds_succ];refine wp_mono (hc.2 ι w a H r) ?_;rintro x' a' w' ⟨rfl,ι',r',H',s⟩;refine oS ?_ n a' w' (hr.2 ι' w' a' H' r');rintro x'' a'' w'' ⟨rfl,ι'',r'',H'',s'⟩;exact⟨rfl,ι'',r'',H'',s.trans s'⟩
theorem jJ.last{c:Code}(hc:aN P N c e h ex e1 h1)(hne:ex≠.normal):jJ P N c 1 e h ex e1 h1:=by
 refine⟨hc.1,?_⟩;intro ι w a H r;rw[rounds_succ];refine wp_mono (hc.2 ι w a H r) ?_;rintro x' a' w' ⟨rfl,q⟩
 cases x' <;> first|exact absurd rfl hne|exact⟨rfl,q⟩
theorem aN.loop{c:Code}{n:Nat}(hr:jJ P N c n e h ex e1 h1):aN P N (.loop c) e h ex e1 h1 :=
 ⟨hr.1,λι w a H r=>wp_loop_rounds n (hr.2 ι w a H r)⟩
theorem aN.region{id:Nat}{ops:Array Oper}(hok:jI N e.n ops=true)(hr:lK P N ops ops.toList e h e1 h1):aN P N (.region id ops false) e h .normal e1 h1:=by
 refine⟨⟨hr.size,hr.n⟩,?_⟩;intro ι w a H r;refine wp_region ?_;have:=yo (Q:=λx a' w'=>x=.normal/\∃ι',ERel ι' e1 a'/\HRel N ι' h1 w'/\Step N ι h w ι' h1 w') ops.toList 0 (λj=>by simp) ι e a h w e1 h1 hok hr H r (λι' a' w' q1 q2 q3=>⟨rfl,ι',q1,q2,q3⟩);rw[OS];simpa using this
end
def qG:List Value->Nat->Env->Env
 |[],_,e=>e
 |v::vs,i,e=>qG vs (i+1) (e.set i v)
def cM(n:Nat)(vs:Array Value):Env:=qG vs.toList 0 ⟨n,.nil,λ_=>undef⟩
theorem xk:∀(vs:List Value) (i:Nat) (e:Env) (j:Nat),(qG vs i e).get j=if i<=j/\j<i+vs.length then vs.getD (j-i) undef else e.get j
 |[],i,e,j=>by
  have:¬ (i<=j/\j<i+0):=by omega
  unfold qG;rw[N4,if_neg this]
 |v::vs,i,e,j=>by
  unfold qG;rw[xk vs (i+1) _ j,Env.dq];by_cases c:i=j
  .subst c
   have n1:¬ (i+1<=i/\i<i+1+vs.length):=by omega
   have n2:i<=i/\i<i+(vs.length+1):=by omega
   rw[if_neg n1,if_pos rfl,M8,if_pos n2];simp
  .by_cases c2:i+1<=j/\j<i+1+vs.length
   .have:i<=j/\j<i+(vs.length+1):=by omega
    rw[if_pos c2,M8,if_pos this]
    have:j-i=(j-(i+1))+1:=by omega
    rw[this];simp
   .have:¬ (i<=j/\j<i+(vs.length+1)):=by omega
    rw[if_neg c2,if_neg (NU c),M8,if_neg this]
theorem BQ:∀(vs:List Value) (i:Nat) (e:Env),(qG vs i e).n=e.n
 |[],_,_=>rfl
 |_::vs,i,e=>by unfold qG;rw[BQ vs];rfl
theorem oA(n:Nat)(vs:Array Value)(j:Nat):(cM n vs).get j=vs.getD j undef:=by
 unfold cM;rw[xk];simp only[L1,true_and,Nu,Ou];split
 .rw[fE]
 .rename_i hj;rw[LW,Ny (by simpa using hj)];rfl
theorem iS(n:Nat)(vs:Array Value):(cM n vs).n=n:=BQ _ _ _
def ka(P:Program)(e:Env)(h:Heap):ResultVar->Option Value
 |.tmp t=>if t<e.n then some (e.get t) else none
 |.cell a t =>
  if a<e.n then
   match e.get a with
   |.pointer (some ⟨g,off,none⟩)=>mJ P h t g off
   |_=>none
  else none
def gU(P:Program)(e:Env)(h:Heap):List ResultVar->Option (List Value)
 |[]=>some []
 |r::rs =>
  match ka P e h r,gU P e h rs with
  |some v,some vs=>some (v::vs)
  |_,_=>none
def lG(P:Program)(fn:Func)(e:Env)(h:Heap):Option Value :=
 match gU P e h fn.results.toList with
 |some [v]=>some v
 |some vs=>some (.tuple vs.toArray)
 |none=>none
section
variable {P:Program} {N:Nat} {ι:Inj} {e:Env} {a:Act} {h:Heap} {w:World}
def zL(tmps:Array Value):ResultVar->Sem Value
 |.tmp t=>pure (tmps.getD t undef)
 |.cell b t=>do loadVar t (<- asAddr (tmps.getD b undef))
theorem xd(fn:Func)(tmps:Array Value):results fn tmps=(do
  let vs <- fn.results.mapM (zL tmps)
  pure (if h:vs.size=1 then vs[0] else .tuple vs)):=by
 unfold results;congr 1
theorem xP(H:HRel N ι h w)(r:ERel ι e a){x:ResultVar}{v:Value}(hv:ka P e h x=some v) :
  ∃v',(zL a.tmps x).run P w=.ok v' w/\VRel ι v v':=by
 cases x with
 |tmp t =>
  simp only[ka] at hv;split at hv
  .rename_i ht
   cases hv
   exact⟨_,rfl,r.get t ht⟩
  .cases hv
 |cell b t =>
  simp only[ka] at hv;split at hv
  .rename_i hb;have q:=r.get b hb;generalize e.get b=u at q hv;generalize hu':a.tmps.getD b undef=u' at q
   cases q <;> try (simp at hv;done)
   rename_i g off l hl;obtain⟨v',q1,q2⟩:=oE H hl hv;refine⟨v',?_,q2⟩;simp only[zL,hu',asAddr,Mv,MO,Mo];exact q1
  .cases hv
theorem nY(H:HRel N ι h w)(r:ERel ι e a):∀(rs:List ResultVar) (vs:List Value),gU P e h rs=some vs ->
  ∃vs',(rs.mapM (zL a.tmps)).run P w=.ok vs' w/\ba ι vs vs'
 |[],vs,hv=>by
  simp only[gU,LR] at hv;subst hv;exact⟨[],by simp,ba.nil ι⟩
 |x::rs,vs,hv=>by
  simp only[gU] at hv;split at hv
  .rename_i v vs0 h1 h2;simp only[LR] at hv;subst hv;obtain⟨v',q1,q2⟩:=xP H r h1;obtain⟨vs',q3,q4⟩:=nY H r rs vs0 h2;refine⟨v'::vs',?_,ba.cons q2 q4⟩;simp only[List.mapM_cons,Mv,q1,Mo,q3,MO]
  .cases hv
theorem eH{fn:Func}(H:HRel N ι h w)(r:ERel ι e a){v:Value}(hv:lG P fn e h=some v):∃v',(results fn a.tmps).run P w=.ok v' w/\VRel ι v v':=by
 unfold lG at hv
 cases hl:gU P e h fn.results.toList with
 |none=>simp[hl] at hv
 |some vs =>
  rw[hl] at hv;obtain⟨vs',q1,q2⟩:=nY H r _ _ hl
  have hrun:(results fn a.tmps).run P w=.ok (if h:vs'.toArray.size=1 then vs'.toArray[0] else .tuple vs'.toArray) w:=by
   rw[xd,Array.mapM_eq_mapM_toList,Mv,Sem.run_map];rw[q1];rfl
  rw[hrun]
  match vs,hv,q2 with
  |[],hv,q2 =>
   simp only[LR] at hv;subst hv;have:vs'=[]:=q2.tA rfl;subst this;exact⟨_,rfl,.unit⟩
  |[u],hv,q2 =>
   simp only[LR] at hv;subst hv;have hlen:=q2.1
   match vs',hlen,q2 with
   |[u'],_,q2 =>
    refine⟨_,rfl,?_⟩;have:=q2.2 0;simpa using this
  |u1::u2::us,hv,q2 =>
   simp only[LR] at hv;subst hv;have hlen:=q2.1
   have hne:¬ vs'.toArray.size=1:=by simp at hlen ⊢;omega
   rw[dif_neg hne];exact⟨_,rfl,.tuple _ _ q2.array.1 q2.array.2⟩
end
theorem al.body{P:Program}{N:Nat}{f:FuncId}{fn:Func}{c:Code}{vs:Array Value}{h h':Heap}{ex:Exit}{e':Env}{v:Value}(hf:P.funcs[f]?=some fn)(hb:fn.body=some c)(hn:lp P f=true)
  (hs:vs.size<=fn.ntmps) (hx:ex=.normal\/ex=.ret) (hc:aN P N c (cM fn.ntmps vs) h ex e' h') (hv:lG P fn e' h'=some v):al P N f vs h v h':=by
 refine⟨hc.1.1,?_⟩;intro ι w vs' H r;refine .inl ⟨hn,calls_of_wp hf hb ?_⟩
 have hr:ERel ι (cM fn.ntmps vs) { tmps:=vs'++Nh (fn.ntmps-vs'.size) undef,defers:=[] }:=by
  refine⟨rfl,?_,λt _=>?_⟩
  .rw[iS];simp;have:=r.1;omega
  .rw[oA];have q:=r.2 t;by_cases ht:t<vs'.size
   .have:(vs'++Nh (fn.ntmps-vs'.size) undef).getD t undef=vs'.getD t undef:=by
     rw[LW,LW,OI ht]
    rw[this];exact q
   .have e1:(vs'++Nh (fn.ntmps-vs'.size) undef).getD t undef=undef:=by
     rw[LW,Po (by omega),NR]
     split <;> rfl
    have e2:vs.getD t undef=undef:=by
     rw[LW,Ny (by have:=r.1;omega)];rfl
    rw[e1,e2];exact VRel.nothing ι
 refine wp_mono (hc.2 ι w _ H hr) ?_;rintro x a' w' ⟨rfl,ι',r',H',s⟩;obtain⟨v',q1,q2⟩:=eH H' r' hv
 rcases hx with rfl|rfl
 .exact⟨r'.defers,v',q1,ι',v',rfl,q2,H',s⟩
 .exact⟨r'.defers,v',q1,ι',v',rfl,q2,H',s⟩
end Go.Abs
