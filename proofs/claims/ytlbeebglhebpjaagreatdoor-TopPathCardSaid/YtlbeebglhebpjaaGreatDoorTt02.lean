/-
  AbsC: parts of the proof.
-/
import Derived.Test.YtlbeebglhebpjaaGreatDoorTt01
namespace Go.Abs
def bR {α:Type} (P:Program):Sem α->Option α
 |.pure a=>some a
 |.program k=>bR P (k P)
 |.mark _ k=>bR P k
 |_=>none
theorem lY {α:Type}{P:Program}{e:Sem α}{a:α} (h:bR P e=some a) (w:World):e.run P w=.ok a w:=by
 induction e with
 |pure b=>simp[bR] at h;subst h;rfl
 |program k ih=>simp only[bR] at h;simpa[Sem.run] using ih P h
 |mark m k ih=>simp only[bR] at h;simpa[Sem.run] using ih h
 |_=>simp[bR] at h
theorem dI {α β:Type} (P:Program) (x:Sem α) (f:α->Sem β):bR P (x >>= f)=(bR P x).bind fun a=>bR P (f a):=by
 show bR P (x.bind f)=_
 induction x with
 |pure b=>rfl
 |program k ih=>simp only[Sem.bind,bR];exact ih P
 |mark m k ih=>simp only[Sem.bind,bR];exact ih
 |_=>rfl
def aA:Value->Bool
 |.bool _ | .int _ _ | .string _ | .pointer none | .map none | .nilFunc | .nilIface=>true
 |.slice none 0 0=>true
 |_=>false
def plain:Value->Bool
 |.agg cs=>cs.all aA
 |v=>aA v
theorem VRel.bb {ι:Inj}{v v':Value} (r:VRel ι v v') (h:aA v=true):v'=v:=by
 cases r <;> first|rfl|simp[aA] at h
theorem VRel.kC {ι:Inj}{v:Value} (h:aA v=true):VRel ι v v:=by
 cases v with
 |bool b=>exact .bool b
 |int k n=>exact .int k n
 |string s=>exact .str s
 |pointer a=>cases a with
  |none=>exact .ptrNil
  |some a=>simp[aA] at h
 |slice a n c=>cases a with
  |none =>
   cases n with
   |zero=>cases c with
    |zero=>exact .sliceNil
    |succ c=>simp[aA] at h
   |succ n=>simp[aA] at h
  |some a=>simp[aA] at h
 |map a=>cases a with
  |none=>exact .mapNil
  |some a=>simp[aA] at h
 |nilFunc=>exact .nilFunc
 |nilIface=>exact .nilIface
 |_=>simp[aA] at h
theorem xz {cs:Array Value}{i:Nat} (h:cs.all aA=true):cs.getD i undef=undef\/aA (cs.getD i undef)=true:=by
 rw[Array.getD_eq_getD_getElem?]
 cases e:cs[i]? with
 |none=>exact .inl rfl
 |some v=>exact .inr ((Array.all_eq_true_iff_forall_mem.1 h) v (Array.mem_of_getElem? e))
theorem VRel.bo {ι:Inj}{v v':Value} (r:VRel ι v v') (h:plain v=true):v'=v:=by
 cases r with
 |agg a a' h1 h2 =>
  simp only[plain] at h
  congr 1
  apply Array.ext h1.symm
  intro i hi hi'
  have:=h2 i
  have hp:aA (a.getD i undef)=true:=by
   rw[Array.getD_eq_getD_getElem?,Array.getElem?_eq_getElem hi']
   exact (Array.all_eq_true_iff_forall_mem.1 h) _ (Array.getElem_mem hi')
  have:=this.bb hp
  rw[Array.getD_eq_getD_getElem?,Array.getD_eq_getD_getElem?,Array.getElem?_eq_getElem hi,Array.getElem?_eq_getElem hi'] at this
  simpa using this
 |_=>first|rfl|simp[plain,aA] at h
theorem ARel.aG {ι:Inj}{cs:Array Value} (h:cs.all aA=true):ARel ι cs cs :=
 ⟨rfl,fun i=>by
  rcases xz (i:=i) h with e|e
  ·rw[e];exact VRel.nothing ι
  ·exact VRel.kC e⟩
theorem VRel.aG {ι:Inj}{v:Value} (h:plain v=true):VRel ι v v:=by
 cases v with
 |agg cs=>exact .agg cs cs rfl (ARel.aG h).2
 |_=>exact VRel.kC h
theorem VRel.cells {ι:Inj}{v v':Value} (r:VRel ι v v'):ARel ι v.cells v'.cells:=by
 have one:∀ {u u':Value},VRel ι u u'->ARel ι #[u] #[u']:=fun {u u'} q=>(aK.cons q (aK.nil ι)).array
 cases r with
 |agg a a' h1 h2=>exact⟨h1,h2⟩
 |bool b=>exact one (.bool b)
 |int k n=>exact one (.int k n)
 |str s=>exact one (.str s)
 |ptrNil=>exact one .ptrNil
 |ptr g off l hl=>exact one (.ptr g off l hl)
 |sliceNil=>exact one .sliceNil
 |slice g off len cap o l hl h1 h2=>exact one (.slice g off len cap o l hl h1 h2)
 |sliceOpen g off s len cap cap' o l hl h1 h2 h3 h4=>exact one (.sliceOpen g off s len cap cap' o l hl h1 h2 h3 h4)
 |mapNil=>exact one .mapNil
 |map g l hl=>exact one (.map g l hl)
 |func f a b a' b' h1 h2 h3 h4=>exact one (.func f a b a' b' h1 h2 h3 h4)
 |nilFunc=>exact one .nilFunc
 |nilIface=>exact one .nilIface
 |flNil s=>exact one (.flNil s)
 |fnNil s=>exact one (.fnNil s)
 |fn s es b o cap hne h=>exact one (.fn s es b o cap hne h)
 |flEmpty s a cap=>exact one (.flEmpty s a cap)
 |fcNil s=>exact one (.fcNil s)
 |fcEmpty s a=>exact one (.fcEmpty s a)
 |fc s es b o hne h=>exact one (.fc s es b o hne h)
 |fl s es b o cap C h0 h1 h2 h3 h4 h5=>exact one (.fl s es b o cap C h0 h1 h2 h3 h4 h5)
 |fp v b o C h0 h1 h2=>exact one (.fp v b o C h0 h1 h2)
 |fe a=>exact one (.fe a)
 |unit=>exact one .unit
 |tuple a a' h1 h2=>exact one (.tuple a a' h1 h2)
def aF (P:Program) (t:TypeId):Option Nat:=(P.info? t).map (·.size)
def gf (P:Program) (t:TypeId):Option Nat:=(P.info? t).map (·.bytes)
def zeroOf (P:Program) (t:TypeId):Option Value:=(P.info? t).bind (·.zero)
def eG (P:Program) (t:TypeId):Option Bool :=
 match P.underlying t with
 |some (.struct _) | some (.array ..)=>some true
 |some _=>some false
 |none=>none
section
variable {P:Program} {w:World}
theorem aI {t:TypeId}{n:Nat} (h:aF P t=some n):(sizeOf t).run P w=.ok n w:=by
 unfold aF at h
 cases e:P.info? t with
 |none=>simp[e] at h
 |some i=>simp[e] at h;simp[sizeOf,typeInfo,e,h]
theorem dG {t:TypeId}{v:Value} (h:zeroOf P t=some v):(zeroValue t).run P w=.ok v w:=by
 unfold zeroOf at h
 cases e:P.info? t with
 |none=>simp[e] at h
 |some i=>simp[e] at h;simp[zeroValue,typeInfo,e,h]
theorem aq {t:TypeId}{d:TypeDesc} (h:P.underlying t=some d):(underlying t).run P w=.ok d w:=by
 simp[underlying,h]
theorem eR {t:TypeId}{b:Bool} (h:eG P t=some b):(isAgg t).run P w=.ok b w:=by
 unfold eG at h
 cases e:P.underlying t with
 |none=>simp[e] at h
 |some d=>cases d <;> simp[e] at h <;> subst h <;> simp[isAgg,aq e]
end
def partOf (P:Program) (t:TypeId) (cs:Array Value) (off:Nat):Option Value :=
 match eG P t,aF P t with
 |some true,some n=>if off+n<=cs.size then some (.agg (cs.extract off (off+n))) else none
 |some false,_=>cs[off]?
 |_,_=>none
theorem ARel.get {ι:Inj}{xs ys:Array Value} (r:ARel ι xs ys) {i:Nat}{v:Value} (e:xs[i]?=some v):∃ v',ys[i]?=some v'/\VRel ι v v':=by
 have:=r.list.get (i:=i) (v:=v) (by simpa using e)
 simpa using this
theorem ARel.extract {ι:Inj}{xs ys:Array Value} (r:ARel ι xs ys) (a b:Nat):ARel ι (xs.extract a b) (ys.extract a b):=by
 rw[ARel.da]
 simp only[Array.toList_extract,List.extract_eq_take_drop]
 exact (r.list.drop a).take _
theorem nF {P:Program}{ι:Inj}{t:TypeId}{cs cs':Array Value}{off:Nat}{v:Value} (r:ARel ι cs cs') (h:partOf P t cs off=some v) :
  ∃ v',(∀ w,(part t cs' off).run P w=.ok v' w)/\VRel ι v v':=by
 unfold partOf at h
 cases ha:eG P t with
 |none=>simp[ha] at h
 |some b =>
  cases b with
  |true =>
   cases hs:aF P t with
   |none=>simp[ha,hs] at h
   |some n =>
    simp only[ha,hs] at h
    split at h
    ·cases h
     refine⟨_,fun w=>(by simp[part,eR ha,aI hs];rfl),?_⟩
     have:=r.extract off (off+n)
     exact .agg _ _ this.1 this.2
    ·cases h
  |false =>
   simp only[ha] at h
   obtain⟨v',e,q⟩:=r.get h
   exact⟨v',fun w=>by simp[part,eR ha,e],q⟩
theorem ARel.set {ι:Inj}{xs ys:Array Value} (r:ARel ι xs ys) (i:Nat) {v v':Value} (q:VRel ι v v'):ARel ι (xs.setIfInBounds i v) (ys.setIfInBounds i v'):=by
 refine⟨by simp[r.1],fun j=>?_⟩
 simp only[Array.getD_eq_getD_getElem?,Array.getElem?_setIfInBounds]
 by_cases e:i=j
 ·subst e
  by_cases hi:i<xs.size
  ·have hi':i<ys.size:=r.1 ▸ hi
   simp[hi,hi',q]
  ·have hi':¬ i<ys.size:=r.1 ▸ hi
   simp[hi,hi',VRel.nothing]
 ·simp only[e,if_false]
  simpa[Array.getD_eq_getD_getElem?] using r.2 j
theorem lQ {ι:Inj} (off:Nat):∀ (xs ys:List Value) (n:Nat) (cs cs':Array Value),aK ι xs ys->ARel ι cs cs' ->
  ARel ι ((xs.zipIdx n).foldl (fun cs (x:Value×Nat)=>cs.setIfInBounds (off+x.2) x.1) cs) ((ys.zipIdx n).foldl (fun cs (x:Value×Nat)=>cs.setIfInBounds (off+x.2) x.1) cs')
 |[],[],_,_,_,_,r=>by simpa using r
 |[],_::_,_,_,_,h,_=>by cases h.1
 |_::_,[],_,_,_,h,_=>by cases h.1
 |x::xs,y::ys,n,cs,cs',h,r=>by
  have h0:VRel ι x y:=by simpa using h.2 0
  have ht:aK ι xs ys:=by simpa using h.drop 1
  simp only[List.zipIdx_cons,List.foldl_cons]
  exact lQ off xs ys (n+1) _ _ ht (r.set _ h0)
theorem kK {ι:Inj}{place:Nat->Option (Nat×Nat)}{ρ ρ':Operand->Value}:∀ (ps:List (Nat×Operand)),(∀ p∈ps,VRel ι (ρ p.2) (ρ' p.2))->∀ (cs cs' out:Array Value),ARel ι cs cs' ->
  Instr.fill place cs (ps.map fun p=>(p.1,ρ p.2))=some out->∃ out',Instr.fill place cs' (ps.map fun p=>(p.1,ρ' p.2))=some out'/\ARel ι out out'
 |[],_,cs,cs',out,r,h=>by
  simp only[List.map_nil,Instr.fill,Option.some.injEq] at h ⊢
  subst h
  exact⟨cs',rfl,r⟩
 |(i,x)::ps,hp,cs,cs',out,r,h=>by
  have hx:=hp (i,x) (by simp)
  simp only at hx
  have hc:=hx.cells
  simp only[List.map_cons,Instr.fill] at h ⊢
  cases e:place i with
  |none=>simp[e] at h
  |some q =>
   obtain⟨off,size⟩:=q
   simp only[e] at h ⊢
   rw[<- hc.1,<- r.1]
   split at h
   ·cases h
   ·rename_i hcond
    rw[if_neg hcond]
    refine kK ps (fun p m=>hp p (by simp[m])) _ _ out ?_ h
    rw[<- Array.foldl_toList,<- Array.foldl_toList,Array.toList_zipIdx,Array.toList_zipIdx]
    exact lQ off _ _ 0 _ _ hc.list r
end Go.Abs
