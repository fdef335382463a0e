/- Parts of the proof. -/
import Derived.Test.YtglgdkineobbeaaGreatDoorTn01
open Go.Instr renaming fill->Oc
open Go.Sem renaming run->Pn
namespace Go.Abs
def cq{α:Type}(P:Program):Sem α->Option α
 |.pure a=>some a
 |.program k=>cq P (k P)
 |.mark _ k=>cq P k
 |_=>none
theorem vH{α:Type}{P:Program}{e:Sem α}{a:α}(h:cq P e=some a)(w:World):e.run P w=.ok a w:=by
 induction e with
 |pure b=>simp[cq] at h;subst h;rfl
 |program k ih=>simp only[cq] at h;simpa[Pn] using ih P h
 |mark m k ih=>simp only[cq] at h;simpa[Pn] using ih h
 |_=>simp[cq] at h
theorem dQ{α β:Type}(P:Program)(x:Sem α)(f:α->Sem β):cq P (x >>= f)=(cq P x).bind λa=>cq P (f a):=by
 show cq P (x.bind f)=_
 induction x with
 |pure b=>rfl
 |program k ih=>simp only[Sem.bind,cq];exact ih P
 |mark m k ih=>simp only[Sem.bind,cq];exact ih
 |_=>rfl
def aR:Value->Bool
 |.bool _ | .int _ _ | .string _ | .pointer none | .map none | .nilFunc | .nilIface=>true
 |.slice none 0 0=>true
 |_=>false
def plain:Value->Bool
 |.agg cs=>cs.all aR
 |v=>aR v
theorem VRel.bZ{ι:Inj}{v v':Value}(r:VRel ι v v')(h:aR v=true):v'=v:=by
 cases r <;> first|rfl|simp[aR] at h
theorem VRel.oO{ι:Inj}{v:Value}(h:aR v=true):VRel ι v v:=by
 cases v with
 |bool b=>exact .bool b
 |int k n=>exact .int k n
 |string s=>exact .str s
 |pointer a=>cases a with
  |none=>exact .ptrNil
  |some a=>simp[aR] at h
 |slice a n c=>cases a with
  |none =>
   cases n with
   |zero=>cases c with
    |zero=>exact .sliceNil
    |succ c=>simp[aR] at h
   |succ n=>simp[aR] at h
  |some a=>simp[aR] at h
 |map a=>cases a with
  |none=>exact .mapNil
  |some a=>simp[aR] at h
 |nilFunc=>exact .nilFunc
 |nilIface=>exact .nilIface
 |_=>simp[aR] at h
theorem Cw{cs:Array Value}{i:Nat}(h:cs.all aR=true):cs.getD i undef=undef\/aR (cs.getD i undef)=true:=by
 rw[LW]
 cases e:cs[i]? with
 |none=>exact .inl rfl
 |some v=>exact .inr ((MJ.1 h) v (M5 e))
theorem VRel.cv{ι:Inj}{v v':Value}(r:VRel ι v v')(h:plain v=true):v'=v:=by
 cases r with
 |agg a a' h1 h2 =>
  simp only[plain] at h;congr 1;apply Q0 h1.symm;intro i hi hi';have:=h2 i
  have hp:aR (a.getD i undef)=true:=by
   rw[LW,Me hi'];exact (MJ.1 h) _ (PT hi')
  have:=this.bZ hp;rw[LW,LW,Me hi,Me hi'] at this;simpa using this
 |_=>first|rfl|simp[plain,aR] at h
theorem bB.aU{ι:Inj}{cs:Array Value}(h:cs.all aR=true):bB ι cs cs :=
 ⟨rfl,λi=>by
  rcases Cw (i:=i) h with e|e
  .rw[e];exact VRel.nothing ι
  .exact VRel.oO e⟩
theorem VRel.aU{ι:Inj}{v:Value}(h:plain v=true):VRel ι v v:=by
 cases v with
 |agg cs=>exact .agg cs cs rfl (bB.aU h).2
 |_=>exact VRel.oO h
theorem VRel.cells{ι:Inj}{v v':Value}(r:VRel ι v v'):bB ι v.cells v'.cells:=by
 have one:∀{u u':Value},VRel ι u u'->bB ι #[u] #[u']:=λ{u u'} q=>(ba.cons q (ba.nil ι)).array
 cases r with
 |agg a a' h1 h2=>exact⟨h1,h2⟩
 |bool b=>exact one (.bool b)
 |int k n=>exact one (.int k n)
 |str s=>exact one (.str s)
 |ptrNil=>exact one .ptrNil
 |ptr g off l hl=>exact one (.ptr g off l hl)
 |sliceNil=>exact one .sliceNil
 |slice g off len cap o l hl h1 h2=>exact one (.slice g off len cap o l hl h1 h2)
 |sliceOpen g off s len cap cap' o l hl h1 h2 h3 h4=>exact one (.sliceOpen g off s len cap cap' o l hl h1 h2 h3 h4)
 |mapNil=>exact one .mapNil
 |map g l hl=>exact one (.map g l hl)
 |func f a b a' b' h1 h2 h3 h4=>exact one (.func f a b a' b' h1 h2 h3 h4)
 |nilFunc=>exact one .nilFunc
 |nilIface=>exact one .nilIface
 |flNil s=>exact one (.flNil s)
 |fnNil s=>exact one (.fnNil s)
 |fn s es b o cap hne h=>exact one (.fn s es b o cap hne h)
 |flEmpty s a cap=>exact one (.flEmpty s a cap)
 |fcNil s=>exact one (.fcNil s)
 |fcEmpty s a=>exact one (.fcEmpty s a)
 |fc s es b o hne h=>exact one (.fc s es b o hne h)
 |fl s es b o cap C h0 h1 h2 h3 h4 h5=>exact one (.fl s es b o cap C h0 h1 h2 h3 h4 h5)
 |fp v b o C h0 h1 h2=>exact one (.fp v b o C h0 h1 h2)
 |fe a=>exact one (.fe a)
 |unit=>exact one .unit
 |tuple a a' h1 h2=>exact one (.tuple a a' h1 h2)
def bb(P:Program)(t:TypeId):Option Nat:=(P.info? t).map (·.size)
def kH(P:Program)(t:TypeId):Option Nat:=(P.info? t).map (·.bytes)
def zeroOf(P:Program)(t:TypeId):Option Value:=(P.info? t).bind (·.zero)
def iz(P:Program)(t:TypeId):Option Bool :=
 match P.underlying t with
 |some (.struct _) | some (.array ..)=>some true
 |some _=>some false
 |none=>none
section
variable {P:Program} {w:World}
theorem bg{t:TypeId}{n:Nat}(h:bb P t=some n):(sizeOf t).run P w=.ok n w:=by
 unfold bb at h
 cases e:P.info? t with
 |none=>simp[e] at h
 |some i=>simp[e] at h;simp[sizeOf,typeInfo,e,h]
theorem fi{t:TypeId}{v:Value}(h:zeroOf P t=some v):(zeroValue t).run P w=.ok v w:=by
 unfold zeroOf at h
 cases e:P.info? t with
 |none=>simp[e] at h
 |some i=>simp[e] at h;simp[zeroValue,typeInfo,e,h]
theorem ax{t:TypeId}{d:TypeDesc}(h:P.underlying t=some d):(underlying t).run P w=.ok d w:=by
 simp[underlying,h]
theorem iZ{t:TypeId}{b:Bool}(h:iz P t=some b):(isAgg t).run P w=.ok b w:=by
 unfold iz at h
 cases e:P.underlying t with
 |none=>simp[e] at h
 |some d=>cases d <;> simp[e] at h <;> subst h <;> simp[isAgg,ax e]
end
def partOf(P:Program)(t:TypeId)(cs:Array Value)(off:Nat):Option Value :=
 match iz P t,bb P t with
 |some true,some n=>if off+n<=cs.size then some (.agg (cs.extract off (off+n))) else none
 |some false,_=>cs[off]?
 |_,_=>none
theorem bB.get{ι:Inj}{xs ys:Array Value}(r:bB ι xs ys){i:Nat}{v:Value}(e:xs[i]?=some v):∃v',ys[i]?=some v'/\VRel ι v v':=by
 have:=r.list.get (i:=i) (v:=v) (by simpa using e);simpa using this
theorem bB.extract{ι:Inj}{xs ys:Array Value}(r:bB ι xs ys)(a b:Nat):bB ι (xs.extract a b) (ys.extract a b):=by
 rw[bB.iK];simp only[Array.toList_extract,QM];exact (r.list.drop a).take _
theorem sr{P:Program}{ι:Inj}{t:TypeId}{cs cs':Array Value}{off:Nat}{v:Value}(r:bB ι cs cs')(h:partOf P t cs off=some v) :
  ∃v',(∀w,(part t cs' off).run P w=.ok v' w)/\VRel ι v v':=by
 unfold partOf at h
 cases ha:iz P t with
 |none=>simp[ha] at h
 |some b =>
  cases b with
  |true =>
   cases hs:bb P t with
   |none=>simp[ha,hs] at h
   |some n =>
    simp only[ha,hs] at h;split at h
    .cases h
     refine⟨_,λw=>(by simp[part,iZ ha,bg hs];rfl),?_⟩;have:=r.extract off (off+n);exact .agg _ _ this.1 this.2
    .cases h
  |false =>
   simp only[ha] at h;obtain⟨v',e,q⟩:=r.get h;exact⟨v',λw=>by simp[part,iZ ha,e],q⟩
theorem bB.set{ι:Inj}{xs ys:Array Value}(r:bB ι xs ys)(i:Nat){v v':Value}(q:VRel ι v v'):bB ι (xs.setIfInBounds i v) (ys.setIfInBounds i v'):=by
 refine⟨by simp[r.1],λj=>?_⟩;simp only[LW,NP];by_cases e:i=j
 .subst e;by_cases hi:i<xs.size
  .have hi':i<ys.size:=r.1 ▸ hi;simp[hi,hi',q]
  .have hi':¬ i<ys.size:=r.1 ▸ hi;simp[hi,hi',VRel.nothing]
 .simp only[e,if_false];simpa[LW] using r.2 j
theorem qs{ι:Inj}(off:Nat):∀(xs ys:List Value) (n:Nat) (cs cs':Array Value),ba ι xs ys->bB ι cs cs' ->
  bB ι ((xs.zipIdx n).foldl (λcs (x:Value×Nat)=>cs.setIfInBounds (off+x.2) x.1) cs) ((ys.zipIdx n).foldl (λcs (x:Value×Nat)=>cs.setIfInBounds (off+x.2) x.1) cs')
 |[],[],_,_,_,_,r=>by simpa using r
 |[],_::_,_,_,_,h,_=>by cases h.1
 |_::_,[],_,_,_,h,_=>by cases h.1
 |x::xs,y::ys,n,cs,cs',h,r=>by
  have h0:VRel ι x y:=by simpa using h.2 0
  have ht:ba ι xs ys:=by simpa using h.drop 1
  simp only[Pw,N3];exact qs off xs ys (n+1) _ _ ht (r.set _ h0)
theorem pb{ι:Inj}{place:Nat->Option (Nat×Nat)}{ρ ρ':Operand->Value}:∀(ps:List (Nat×Operand)),(∀p∈ps,VRel ι (ρ p.2) (ρ' p.2))->∀(cs cs' out:Array Value),bB ι cs cs' ->
  Oc place cs (ps.map λp=>(p.1,ρ p.2))=some out->∃out',Oc place cs' (ps.map λp=>(p.1,ρ' p.2))=some out'/\bB ι out out'
 |[],_,cs,cs',out,r,h=>by
  simp only[ND,Oc,LR] at h ⊢;subst h;exact⟨cs',rfl,r⟩
 |(i,x)::ps,hp,cs,cs',out,r,h=>by
  have hx:=hp (i,x) (by simp);simp only at hx;have hc:=hx.cells;simp only[MM,Oc] at h ⊢
  cases e:place i with
  |none=>simp[e] at h
  |some q =>
   obtain⟨off,size⟩:=q;simp only[e] at h ⊢;rw[<- hc.1,<- r.1];split at h
   .cases h
   .rename_i hcond;rw[if_neg hcond];refine pb ps (λp m=>hp p (by simp[m])) _ _ out ?_ h;rw[<- PJ,<- PJ,PB,PB];exact qs off _ _ 0 _ _ hc.list r
end Go.Abs
