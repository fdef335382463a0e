/-
  AbsC: parts of the proof.
-/
import Derived.Test.YtgiedjgdlckahaaGreatDoorTk01
namespace Go.Abs
def bK {α:Type} (P:Program):Sem α->Option α
 |.pure a=>some a
 |.program k=>bK P (k P)
 |.mark _ k=>bK P k
 |_=>none
theorem tt {α:Type}{P:Program}{e:Sem α}{a:α} (h:bK P e=some a) (w:World):e.run P w=.ok a w:=by
 induction e with
 |pure b=>simp[bK] at h;subst h;rfl
 |program k ih=>simp only[bK] at h;simpa[Sem.run] using ih P h
 |mark m k ih=>simp only[bK] at h;simpa[Sem.run] using ih h
 |_=>simp[bK] at h
theorem dE {α β:Type} (P:Program) (x:Sem α) (f:α->Sem β):bK P (x >>= f)=(bK P x).bind fun a=>bK P (f a):=by
 show bK P (x.bind f)=_
 induction x with
 |pure b=>rfl
 |program k ih=>simp only[Sem.bind,bK];exact ih P
 |mark m k ih=>simp only[Sem.bind,bK];exact ih
 |_=>rfl
def aJ:Value->Bool
 |.bool _ | .int _ _ | .string _ | .pointer none | .map none | .nilFunc | .nilIface=>true
 |.slice none 0 0=>true
 |_=>false
def plain:Value->Bool
 |.agg cs=>cs.all aJ
 |v=>aJ v
theorem VRel.bH {ι:Inj}{v v':Value} (r:VRel ι v v') (h:aJ v=true):v'=v:=by
 cases r <;> first|rfl|simp[aJ] at h
theorem VRel.mB {ι:Inj}{v:Value} (h:aJ v=true):VRel ι v v:=by
 cases v with
 |bool b=>exact .bool b
 |int k n=>exact .int k n
 |string s=>exact .str s
 |pointer a=>cases a with
  |none=>exact .ptrNil
  |some a=>simp[aJ] at h
 |slice a n c=>cases a with
  |none =>
   cases n with
   |zero=>cases c with
    |zero=>exact .sliceNil
    |succ c=>simp[aJ] at h
   |succ n=>simp[aJ] at h
  |some a=>simp[aJ] at h
 |map a=>cases a with
  |none=>exact .mapNil
  |some a=>simp[aJ] at h
 |nilFunc=>exact .nilFunc
 |nilIface=>exact .nilIface
 |_=>simp[aJ] at h
theorem BH {cs:Array Value}{i:Nat} (h:cs.all aJ=true):cs.getD i undef=undef\/aJ (cs.getD i undef)=true:=by
 rw[Array.getD_eq_getD_getElem?]
 cases e:cs[i]? with
 |none=>exact .inl rfl
 |some v=>exact .inr ((Array.all_eq_true_iff_forall_mem.1 h) v (Array.mem_of_getElem? e))
theorem VRel.bS {ι:Inj}{v v':Value} (r:VRel ι v v') (h:plain v=true):v'=v:=by
 cases r with
 |agg a a' h1 h2 =>
  simp only[plain] at h;congr 1;apply Array.ext h1.symm;intro i hi hi';have:=h2 i
  have hp:aJ (a.getD i undef)=true:=by
   rw[Array.getD_eq_getD_getElem?,Array.getElem?_eq_getElem hi'];exact (Array.all_eq_true_iff_forall_mem.1 h) _ (Array.getElem_mem hi')
  have:=this.bH hp;rw[Array.getD_eq_getD_getElem?,Array.getD_eq_getD_getElem?,Array.getElem?_eq_getElem hi,Array.getElem?_eq_getElem hi'] at this;simpa using this
 |_=>first|rfl|simp[plain,aJ] at h
theorem bm.aN {ι:Inj}{cs:Array Value} (h:cs.all aJ=true):bm ι cs cs :=
 ⟨rfl,fun i=>by
  rcases BH (i:=i) h with e|e
  ·rw[e];exact VRel.nothing ι
  ·exact VRel.mB e⟩
theorem VRel.aN {ι:Inj}{v:Value} (h:plain v=true):VRel ι v v:=by
 cases v with
 |agg cs=>exact .agg cs cs rfl (bm.aN h).2
 |_=>exact VRel.mB h
theorem VRel.cells {ι:Inj}{v v':Value} (r:VRel ι v v'):bm ι v.cells v'.cells:=by
 have one:∀ {u u':Value},VRel ι u u'->bm ι #[u] #[u']:=fun {u u'} q=>(aS.cons q (aS.nil ι)).array
 cases r with
 |agg a a' h1 h2=>exact⟨h1,h2⟩
 |bool b=>exact one (.bool b)
 |int k n=>exact one (.int k n)
 |str s=>exact one (.str s)
 |ptrNil=>exact one .ptrNil
 |ptr g off l hl=>exact one (.ptr g off l hl)
 |sliceNil=>exact one .sliceNil
 |slice g off len cap o l hl h1 h2=>exact one (.slice g off len cap o l hl h1 h2)
 |sliceOpen g off s len cap cap' o l hl h1 h2 h3 h4=>exact one (.sliceOpen g off s len cap cap' o l hl h1 h2 h3 h4)
 |mapNil=>exact one .mapNil
 |map g l hl=>exact one (.map g l hl)
 |func f a b a' b' h1 h2 h3 h4=>exact one (.func f a b a' b' h1 h2 h3 h4)
 |nilFunc=>exact one .nilFunc
 |nilIface=>exact one .nilIface
 |flNil s=>exact one (.flNil s)
 |fnNil s=>exact one (.fnNil s)
 |fn s es b o cap hne h=>exact one (.fn s es b o cap hne h)
 |flEmpty s a cap=>exact one (.flEmpty s a cap)
 |fcNil s=>exact one (.fcNil s)
 |fcEmpty s a=>exact one (.fcEmpty s a)
 |fc s es b o hne h=>exact one (.fc s es b o hne h)
 |fl s es b o cap C h0 h1 h2 h3 h4 h5=>exact one (.fl s es b o cap C h0 h1 h2 h3 h4 h5)
 |fp v b o C h0 h1 h2=>exact one (.fp v b o C h0 h1 h2)
 |fe a=>exact one (.fe a)
 |unit=>exact one .unit
 |tuple a a' h1 h2=>exact one (.tuple a a' h1 h2)
def aQ (P:Program) (t:TypeId):Option Nat:=(P.info? t).map (·.size)
def kJ (P:Program) (t:TypeId):Option Nat:=(P.info? t).map (·.bytes)
def zeroOf (P:Program) (t:TypeId):Option Value:=(P.info? t).bind (·.zero)
def fB (P:Program) (t:TypeId):Option Bool :=
 match P.underlying t with
 |some (.struct _) | some (.array ..)=>some true
 |some _=>some false
 |none=>none
section
variable {P:Program} {w:World}
theorem aR {t:TypeId}{n:Nat} (h:aQ P t=some n):(sizeOf t).run P w=.ok n w:=by
 unfold aQ at h
 cases e:P.info? t with
 |none=>simp[e] at h
 |some i=>simp[e] at h;simp[sizeOf,typeInfo,e,h]
theorem eH {t:TypeId}{v:Value} (h:zeroOf P t=some v):(zeroValue t).run P w=.ok v w:=by
 unfold zeroOf at h
 cases e:P.info? t with
 |none=>simp[e] at h
 |some i=>simp[e] at h;simp[zeroValue,typeInfo,e,h]
theorem ak {t:TypeId}{d:TypeDesc} (h:P.underlying t=some d):(underlying t).run P w=.ok d w:=by
 simp[underlying,h]
theorem fW {t:TypeId}{b:Bool} (h:fB P t=some b):(isAgg t).run P w=.ok b w:=by
 unfold fB at h
 cases e:P.underlying t with
 |none=>simp[e] at h
 |some d=>cases d <;> simp[e] at h <;> subst h <;> simp[isAgg,ak e]
end
def partOf (P:Program) (t:TypeId) (cs:Array Value) (off:Nat):Option Value :=
 match fB P t,aQ P t with
 |some true,some n=>if off+n<=cs.size then some (.agg (cs.extract off (off+n))) else none
 |some false,_=>cs[off]?
 |_,_=>none
theorem bm.get {ι:Inj}{xs ys:Array Value} (r:bm ι xs ys) {i:Nat}{v:Value} (e:xs[i]?=some v):∃ v',ys[i]?=some v'/\VRel ι v v':=by
 have:=r.list.get (i:=i) (v:=v) (by simpa using e);simpa using this
theorem bm.extract {ι:Inj}{xs ys:Array Value} (r:bm ι xs ys) (a b:Nat):bm ι (xs.extract a b) (ys.extract a b):=by
 rw[bm.im];simp only[Array.toList_extract,List.extract_eq_take_drop];exact (r.list.drop a).take _
theorem pM {P:Program}{ι:Inj}{t:TypeId}{cs cs':Array Value}{off:Nat}{v:Value} (r:bm ι cs cs') (h:partOf P t cs off=some v) :
  ∃ v',(∀ w,(part t cs' off).run P w=.ok v' w)/\VRel ι v v':=by
 unfold partOf at h
 cases ha:fB P t with
 |none=>simp[ha] at h
 |some b =>
  cases b with
  |true =>
   cases hs:aQ P t with
   |none=>simp[ha,hs] at h
   |some n =>
    simp only[ha,hs] at h;split at h
    ·cases h
     refine⟨_,fun w=>(by simp[part,fW ha,aR hs];rfl),?_⟩;have:=r.extract off (off+n);exact .agg _ _ this.1 this.2
    ·cases h
  |false =>
   simp only[ha] at h;obtain⟨v',e,q⟩:=r.get h;exact⟨v',fun w=>by simp[part,fW ha,e],q⟩
theorem bm.set {ι:Inj}{xs ys:Array Value} (r:bm ι xs ys) (i:Nat) {v v':Value} (q:VRel ι v v'):bm ι (xs.setIfInBounds i v) (ys.setIfInBounds i v'):=by
 refine⟨by simp[r.1],fun j=>?_⟩;simp only[Array.getD_eq_getD_getElem?,Array.getElem?_setIfInBounds];by_cases e:i=j
 ·subst e;by_cases hi:i<xs.size
  ·have hi':i<ys.size:=r.1 ▸ hi;simp[hi,hi',q]
  ·have hi':¬ i<ys.size:=r.1 ▸ hi;simp[hi,hi',VRel.nothing]
 ·simp only[e,if_false];simpa[Array.getD_eq_getD_getElem?] using r.2 j
theorem ox {ι:Inj} (off:Nat):∀ (xs ys:List Value) (n:Nat) (cs cs':Array Value),aS ι xs ys->bm ι cs cs' ->
  bm ι ((xs.zipIdx n).foldl (fun cs (x:Value×Nat)=>cs.setIfInBounds (off+x.2) x.1) cs) ((ys.zipIdx n).foldl (fun cs (x:Value×Nat)=>cs.setIfInBounds (off+x.2) x.1) cs')
 |[],[],_,_,_,_,r=>by simpa using r
 |[],_::_,_,_,_,h,_=>by cases h.1
 |_::_,[],_,_,_,h,_=>by cases h.1
 |x::xs,y::ys,n,cs,cs',h,r=>by
  have h0:VRel ι x y:=by simpa using h.2 0
  have ht:aS ι xs ys:=by simpa using h.drop 1
  simp only[List.zipIdx_cons,List.foldl_cons];exact ox off xs ys (n+1) _ _ ht (r.set _ h0)
theorem nc {ι:Inj}{place:Nat->Option (Nat×Nat)}{ρ ρ':Operand->Value}:∀ (ps:List (Nat×Operand)),(∀ p∈ps,VRel ι (ρ p.2) (ρ' p.2))->∀ (cs cs' out:Array Value),bm ι cs cs' ->
  Instr.fill place cs (ps.map fun p=>(p.1,ρ p.2))=some out->∃ out',Instr.fill place cs' (ps.map fun p=>(p.1,ρ' p.2))=some out'/\bm ι out out'
 |[],_,cs,cs',out,r,h=>by
  simp only[List.map_nil,Instr.fill,Option.some.injEq] at h ⊢;subst h;exact⟨cs',rfl,r⟩
 |(i,x)::ps,hp,cs,cs',out,r,h=>by
  have hx:=hp (i,x) (by simp);simp only at hx;have hc:=hx.cells;simp only[List.map_cons,Instr.fill] at h ⊢
  cases e:place i with
  |none=>simp[e] at h
  |some q =>
   obtain⟨off,size⟩:=q;simp only[e] at h ⊢;rw[<- hc.1,<- r.1];split at h
   ·cases h
   ·rename_i hcond;rw[if_neg hcond];refine nc ps (fun p m=>hp p (by simp[m])) _ _ out ?_ h;rw[<- Array.foldl_toList,<- Array.foldl_toList,Array.toList_zipIdx,Array.toList_zipIdx];exact ox off _ _ 0 _ _ hc.list r
end Go.Abs
