/-
  AbsX: parts of the proof.
-/
import Derived.Test.YtlbeebglhebpjaaGreatDoorTt23
namespace Go.Abs
variable {P:Program} {ρ:Operand->Value} {d:Option Tmp} {ty:TypeId} {pos:String} {af:Array Edge} {gd:Option (Nat×Bool)} {h:Heap}
theorem HRel.le {N:Nat}{ι:Inj}{w:World} (H:HRel N ι h w):N<=h.size:=by
 cases N with
 |zero=>exact Nat.zero_le _
 |succ n =>
  obtain⟨l,e,_⟩:=H.glob n (Nat.lt_succ_self n)
  exact H.dom n l e
theorem CallD.sized {N:Nat}{f:FuncId}{vs:Array Value}{v:Value} (c:N<=h.size->CallD P N f vs h v h):CallD P N f vs h v h :=
 ⟨Nat.le_refl _,fun ι w vs' H r=>(c H.le).2 ι w vs' H r⟩
def EH (cs:List Value) (off:Nat) (e:Value):Prop:=off+(cl e).length<=cs.length/\(cs.drop off).take (cl e).length=cl e
def Sl (h:Heap) (s:Nat) (v:Value) (l:List Value):Prop :=
 (v=.slice none 0 0/\l=[])\/∃ g off sp cap cs ro,v=.slice (some ⟨g,off,sp⟩) l.length cap/\l.length<=cap/\h.get g=some (.cells cs ro)/\∀ j e,l[j]?=some e->EH cs (off+j*s) e/\(cl e).length=s
theorem bV {t e:TypeId}{x i:Operand}{g off s n cap j:Nat}{sp:Option Nat}{k:IntKind}{K:Value->Prop}
  (hu:P.underlying t=some (.slice e)) (hs:aF P e=some s) (hx:ρ x=.slice (some ⟨g,off,sp⟩) n cap) (hi:ρ i=.int k (Int.ofNat j)) (hj:j<n)
  (hk:K (.pointer (some ⟨g,off+j*s,none⟩))) :
  ∃ v,av P ρ { dst:=d,op:=.indexAddr t x i,type:=ty,pos:=pos,after:=af,guard:=gd }=some v/\K v:=by
 refine⟨_,?_,hk⟩
 unfold av
 simp only[hu,hx,hi,hs]
 have c:0<=Int.ofNat j/\Int.ofNat j<(n:Int):=⟨Int.natCast_nonneg j,by simpa using hj⟩
 rw[if_pos c]
 rfl
theorem wP {op:BinOp}{t yt:TypeId}{x y:Operand}{k:IntKind}{a b:Int}{v:Value} (hx:ρ x=.int k a) (hy:ρ y=.int k b) (hv:fu op k a b=some v) :
  av P ρ { dst:=d,op:=.binOp op t x y yt,type:=ty,pos:=pos,after:=af,guard:=gd }=some v:=by
 unfold av
 simp only[hx,hy,quick,if_pos,hv]
theorem Ct {t yt:TypeId}{x y:Operand}{a b:Nat} (hx:ρ x=.int .i64 (Int.ofNat a)) (hy:ρ y=.int .i64 (Int.ofNat b)) (hb:a+b<2 ^ 63) :
  av P ρ { dst:=d,op:=.binOp .add t x y yt,type:=ty,pos:=pos,after:=af,guard:=gd }=some (.int .i64 (Int.ofNat (a+b))):=by
 refine wP hx hy ?_
 simp only[fu,Option.some.injEq,Value.int.injEq,true_and]
 rw[IntWalk.i64_in _ (by simp only[Int.ofNat_eq_natCast];omega)]
 rfl
theorem EN {t yt:TypeId}{x y:Operand}{a b:Nat} (hx:ρ x=.int .i64 (Int.ofNat a)) (hy:ρ y=.int .i64 (Int.ofNat b)) (hle:b<=a) (hb:a<2 ^ 63) :
  av P ρ { dst:=d,op:=.binOp .sub t x y yt,type:=ty,pos:=pos,after:=af,guard:=gd }=some (.int .i64 (Int.ofNat (a-b))):=by
 refine wP hx hy ?_
 simp only[fu,Option.some.injEq,Value.int.injEq,true_and]
 rw[IntWalk.i64_in _ (by simp only[Int.ofNat_eq_natCast];omega)]
 simp only[Int.ofNat_eq_natCast];omega
theorem C7 {op:BinOp}{t yt:TypeId}{x y:Operand}{k:IntKind}{a b c:Int} (hop:op=.and\/op=.or\/op=.xor\/op=.andNot) (hx:ρ x=.int k a) (hy:ρ y=.int k b) (hr:bR P (Op.intBits op k a b)=some (.int k c)) :
  av P ρ { dst:=d,op:=.binOp op t x y yt,type:=ty,pos:=pos,after:=af,guard:=gd }=some (.int k c):=by
 have hp:(Op.binOp op t x y yt).operands.all (fun x=>plain (ρ x))=true:=by simp[Op.operands,hx,hy,plain,aA]
 have hpl:plain (.int k c)=true:=rfl
 have this:bR P (execOp ρ { dst:=d,op:=.binOp op t x y yt,type:=ty,pos:=pos,after:=af,guard:=gd })=some (.value (.int k c)):=by
  rcases hop with rfl|rfl|rfl|rfl <;>
  ·simp only[execOp,dI,hx,hy,binOp,eqGuard,ne_eq,not_true_eq_false,if_false]
   simp only[hr]
   rfl
 have that:aW P ρ { dst:=d,op:=.binOp op t x y yt,type:=ty,pos:=pos,after:=af,guard:=gd }=some (.int k c):=by
  unfold aW
  rw[if_pos hp,this]
  simp only[hpl,if_true]
 rcases hop with rfl|rfl|rfl|rfl <;>
 ·unfold av
  simp only[hx,hy,quick,fu,if_pos]
  exact that
theorem gL {s t:TypeId}{x:Operand}{k k':IntKind}{a:Int} (hs:P.underlying s=some (.int k)) (ht:P.underlying t=some (.int k')) (hx:ρ x=.int k a) (hw:k'.wrap a=a) :
  aJ P ρ { dst:=d,op:=.convert s t x,type:=ty,pos:=pos,after:=af,guard:=gd } h=some (.int k' a):=by
 unfold aJ
 simp only[hs,ht]
 unfold aW
 have h1:(Op.convert s t x).operands.all (fun x=>plain (ρ x))=true:=by
  simp[Op.operands,hx,plain,aA]
 rw[if_pos h1]
 have e1:∀ u du,P.underlying u=some du->bR P (underlying u)=some du:=by
  intro u du hu
  simp only[underlying,dI]
  show Option.bind (some P) _=_
  simp only[Option.bind_some,hu]
  rfl
 have h2:bR P (execOp ρ { dst:=d,op:=.convert s t x,type:=ty,pos:=pos,after:=af,guard:=gd })=some (.value (.int k' a)):=by
  simp only[execOp,convert,dI,e1 _ _ hs,e1 _ _ ht,Option.bind_some,hx,Conv.intToInt,hw]
  rfl
 rw[h2]
 rfl
theorem ae {t:TypeId}{a:Operand}{g off:Nat}{cs:List Value}{ro:Bool}{v:Value} (ha:ρ a=.pointer (some ⟨g,off,none⟩)) (hg:h.get g=some (.cells cs ro)) (ht:eG P t=some false) (hv:cs[off]?=some v) :
  aJ P ρ { dst:=d,op:=.load t a,type:=ty,pos:=pos,after:=af,guard:=gd } h=some v:=by
 unfold aJ
 simp only[ha,ja,hg,ht,hv]
theorem bj {t:TypeId}{a:Operand}{g off n:Nat}{cs l:List Value}{ro:Bool} (ha:ρ a=.pointer (some ⟨g,off,none⟩)) (hg:h.get g=some (.cells cs ro)) (ht:eG P t=some true) (hs:aF P t=some n) (hle:off+n<=cs.length) (hv:(cs.drop off).take n=l) :
  aJ P ρ { dst:=d,op:=.load t a,type:=ty,pos:=pos,after:=af,guard:=gd } h=some (.agg ⟨l⟩):=by
 unfold aJ
 simp only[ha,ja,hg,ht,hs,if_pos hle,hv]
theorem aL {e:Env}{t:TypeId}{a:Tmp}{g off n:Nat}{cs l:List Value}{ro:Bool} (hn:Nat.ble (a+1) e.n=true) (ha:e.get a=.pointer (some ⟨g,off,none⟩)) (hg:h.get g=some (.cells cs ro)) (ht:eG P t=some true) (hs:aF P t=some n) (hle:off+n<=cs.length) (hv:(cs.drop off).take n=l) :
  gz P e h (.cell a t)=some (.agg ⟨l⟩):=by
 have hn':a<e.n:=Nat.le_of_ble_eq_true hn
 simp only[gz,if_pos hn',ha,ja,hg,ht,hs,if_pos hle,hv]
theorem Eu {e:Env}{t:TypeId}{a:Tmp}{g off:Nat}{cs:List Value}{ro:Bool}{v:Value} (hn:Nat.ble (a+1) e.n=true) (ha:e.get a=.pointer (some ⟨g,off,none⟩)) (hg:h.get g=some (.cells cs ro)) (ht:eG P t=some false) (hv:cs[off]?=some v) :
  gz P e h (.cell a t)=some v:=by
 have hn':a<e.n:=Nat.le_of_ble_eq_true hn
 simp only[gz,if_pos hn',ha,ja,hg,ht,hv]
theorem jo {t:TypeId}{x:Operand}{l:List Value} (hx:cl (ρ x)=l) :
  anew P ρ { dst:=d,op:=.box t x,type:=ty,pos:=pos,after:=af,guard:=gd }=some (.cells l false,fun g=>.pointer (some ⟨g,0,none⟩)):=by
 subst hx;rfl
theorem EB {t e:TypeId}{x y:Operand}{n b:Nat}{z:Value} (hu:P.underlying t=some (.slice e)) (hs:aF P e=some 1) (hb:gf P e=some b) (hz:zeroOf P e=some z) (hz1:z.cells = #[z]) (hp:aA z=true)
  (hx:ρ x=.int .i64 (Int.ofNat n)) (hy:ρ y=.int .i64 (Int.ofNat n)) (hn:b*n<=2 ^ 48) (hn2:n<2 ^ 63) :
  anew P ρ { dst:=d,op:=.makeSlice t x y,type:=ty,pos:=pos,after:=af,guard:=gd }=some (.cells (List.replicate n z) false,fun g=>.slice (some ⟨g,0,none⟩) n n):=by
 unfold anew
 simp only[hu,hx,hy,hs,hb,hz]
 have c:0<=Int.ofNat n/\Int.ofNat n<=Int.ofNat n/\(b:Int)*Int.ofNat n<=2 ^ 48/\Int.ofNat n<2 ^ 63/\z.cells.all aA=true:=by
  refine⟨Int.natCast_nonneg n,Int.le_refl _,?_,?_,by rw[hz1];simp[hp]⟩
  ·have:((b*n:Nat):Int)<=((2 ^ 48:Nat):Int):=Int.ofNat_le.2 hn
   simpa using this
  ·have:((n:Nat):Int)<((2 ^ 63:Nat):Int):=Int.ofNat_lt.2 hn2
   simpa using this
 rw[if_pos c,hz1,Nat.mul_one]
 have:(Int.ofNat n).toNat=n:=rfl
 rw[this,Be]
theorem kZ {t e:TypeId}{n s:Nat}{ps:Array (Nat×Operand)}{z:Value}{vs:List Value} (hu:P.underlying t=some (.slice e)) (hs:aF P e=some s) (hz:zeroOf P e=some z) (hp:z.cells.all aA=true) (hpos:Nat.ble 1 (n*s)=true) (hle:Nat.ble (n*s) (2 ^ 24)=true)
  (hv:ps.toList.map (fun p=>(p.1,ρ p.2))=parts 0 vs) (hn:vs.length=n) (hc:∀ v∈vs,(cl v).length=s) :
  anew P ρ { dst:=d,op:=.buildSlice t n ps,type:=ty,pos:=pos,after:=af,guard:=gd }=some (.cells (flatC vs) false,fun g=>.slice (some ⟨g,0,none⟩) n n):=by
 unfold anew
 simp only[hu,hs,hz,hp]
 have h1:0<n*s:=Nat.le_of_ble_eq_true hpos
 have h2:n*s<=2 ^ 24:=Nat.le_of_ble_eq_true hle
 simp only[h1,h2,decide_true,Bool.and_self,if_true,hv]
 have:=mK s vs 0 (fT z.cells (n*s)) [] hc (by simp) (fT z.cells (n*s)).toList (by rw[Array.length_toList,od,hn]) (by simp)
 rw[this]
 simp
theorem AQ {t:TypeId}{a x:Operand}{g off n:Nat}{cs l:List Value}{K:Value->Heap->Prop} (ha:ρ a=.pointer (some ⟨g,off,none⟩)) (hg:h.get g=some (.cells cs false)) (hs:aF P t=some n) (hx:cl (ρ x)=l) (hl:l.length=n)
  (hle:off+n<=cs.length) (h1:l.all Value.oneCell'=true) (k:∀ h1,Upd h g (.cells (aS cs off l) false) h1->K undef h1) :
  ∃ (v:Value) (T:Heap->Prop),(∃ h',ct P ρ { dst:=d,op:=.store t a x,type:=ty,pos:=pos,after:=af,guard:=gd } h=some (v,h')/\T h')/\∀ h1,T h1->K v h1:=by
 refine⟨undef,Upd h g (.cells (aS cs off l) false),⟨_,?_,Upd.upd _ (Heap.ak hg)⟩,k⟩
 unfold ct ec
 simp only[cl] at hx
 simp only[ha,hg,hx]
 rw[if_pos ⟨by rw[hs,hl],by omega,h1⟩]
structure Grow (h:Heap) (s:Nat) (a:Option Nat) (l:List Value):Prop where
 nil:a=none->l=[]
 get:∀ g,a=some g->h.get g=some (.cells (flatC l) false)
 size:∀ e∈l,(cl e).length=s
 one:(flatC l).all Value.oneCell'=true
def aj (s:Nat) (a:Option Nat) (l:List Value):Value:=.slice (a.map fun g=>⟨g,0,some s⟩) l.length l.length
structure Grown (h:Heap) (s:Nat) (a:Option Nat) (l:List Value) (h1:Heap) (g1:Nat):Prop where
 grow:Grow h1 s (some g1) l
 size:h.size<=h1.size
 fresh:h.size<=g1
 other:∀ k,k<h.size->a≠some k->h1.get k=h.get k
end Go.Abs
