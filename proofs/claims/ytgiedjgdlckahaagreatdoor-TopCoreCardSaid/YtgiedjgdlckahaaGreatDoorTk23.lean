/-
  AbsX: parts of the proof.
-/
import Derived.Test.YtgiedjgdlckahaaGreatDoorTk22
namespace Go.Abs
variable {P:Program} {ρ:Operand->Value} {d:Option Tmp} {ty:TypeId} {pos:String} {af:Array Edge} {gd:Option (Nat×Bool)} {h:Heap}
theorem HRel.le {N:Nat}{ι:Inj}{w:World} (H:HRel N ι h w):N<=h.size:=by
 cases N with
 |zero=>exact Nat.zero_le _
 |succ n =>
  obtain⟨l,e,_⟩:=H.glob n (Nat.lt_succ_self n);exact H.dom n l e
theorem CallD.sized {N:Nat}{f:FuncId}{vs:Array Value}{v:Value} (c:N<=h.size->CallD P N f vs h v h):CallD P N f vs h v h :=
 ⟨Nat.le_refl _,fun ι w vs' H r=>(c H.le).2 ι w vs' H r⟩
def Kl (cs:List Value) (off:Nat) (e:Value):Prop:=off+(cl e).length<=cs.length/\(cs.drop off).take (cl e).length=cl e
def Sl (h:Heap) (s:Nat) (v:Value) (l:List Value):Prop :=
 (v=.slice none 0 0/\l=[])\/∃ g off sp cap cs ro,v=.slice (some ⟨g,off,sp⟩) l.length cap/\l.length<=cap/\h.get g=some (.cells cs ro)/\∀ j e,l[j]?=some e->Kl cs (off+j*s) e/\(cl e).length=s
theorem bb {t e:TypeId}{x i:Operand}{g off s n cap j:Nat}{sp:Option Nat}{k:IntKind}{K:Value->Prop}
  (hu:P.underlying t=some (.slice e)) (hs:aQ P e=some s) (hx:ρ x=.slice (some ⟨g,off,sp⟩) n cap) (hi:ρ i=.int k (Int.ofNat j)) (hj:j<n)
  (hk:K (.pointer (some ⟨g,off+j*s,none⟩))) :
  ∃ v,aq P ρ { dst:=d,op:=.indexAddr t x i,type:=ty,pos:=pos,after:=af,guard:=gd }=some v/\K v:=by
 refine⟨_,?_,hk⟩;unfold aq;simp only[hu,hx,hi,hs];have c:0<=Int.ofNat j/\Int.ofNat j<(n:Int):=⟨Int.natCast_nonneg j,by simpa using hj⟩;rw[if_pos c];rfl
theorem vr {op:BinOp}{t yt:TypeId}{x y:Operand}{k:IntKind}{a b:Int}{v:Value} (hx:ρ x=.int k a) (hy:ρ y=.int k b) (hv:dK op k a b=some v) :
  aq P ρ { dst:=d,op:=.binOp op t x y yt,type:=ty,pos:=pos,after:=af,guard:=gd }=some v:=by
 unfold aq;simp only[hx,hy,quick,if_pos,hv]
theorem GA {t yt:TypeId}{x y:Operand}{a b:Nat} (hx:ρ x=.int .i64 (Int.ofNat a)) (hy:ρ y=.int .i64 (Int.ofNat b)) (hb:a+b<2 ^ 63) :
  aq P ρ { dst:=d,op:=.binOp .add t x y yt,type:=ty,pos:=pos,after:=af,guard:=gd }=some (.int .i64 (Int.ofNat (a+b))):=by
 refine vr hx hy ?_;simp only[dK,Option.some.injEq,Value.int.injEq,true_and];rw[IntWalk.i64_in _ (by simp only[Int.ofNat_eq_natCast];omega)];rfl
theorem Kk {t yt:TypeId}{x y:Operand}{a b:Nat} (hx:ρ x=.int .i64 (Int.ofNat a)) (hy:ρ y=.int .i64 (Int.ofNat b)) (hle:b<=a) (hb:a<2 ^ 63) :
  aq P ρ { dst:=d,op:=.binOp .sub t x y yt,type:=ty,pos:=pos,after:=af,guard:=gd }=some (.int .i64 (Int.ofNat (a-b))):=by
 refine vr hx hy ?_;simp only[dK,Option.some.injEq,Value.int.injEq,true_and];rw[IntWalk.i64_in _ (by simp only[Int.ofNat_eq_natCast];omega)];simp only[Int.ofNat_eq_natCast];omega
theorem Cd {op:BinOp}{t yt:TypeId}{x y:Operand}{k:IntKind}{a b c:Int} (hop:op=.and\/op=.or\/op=.xor\/op=.andNot) (hx:ρ x=.int k a) (hy:ρ y=.int k b) (hr:bK P (Op.intBits op k a b)=some (.int k c)) :
  aq P ρ { dst:=d,op:=.binOp op t x y yt,type:=ty,pos:=pos,after:=af,guard:=gd }=some (.int k c):=by
 have hp:(Op.binOp op t x y yt).operands.all (fun x=>plain (ρ x))=true:=by simp[Op.operands,hx,hy,plain,aJ]
 have hpl:plain (.int k c)=true:=rfl
 have this:bK P (execOp ρ { dst:=d,op:=.binOp op t x y yt,type:=ty,pos:=pos,after:=af,guard:=gd })=some (.value (.int k c)):=by
  rcases hop with rfl|rfl|rfl|rfl <;>
  ·simp only[execOp,dE,hx,hy,binOp,eqGuard,ne_eq,not_true_eq_false,if_false];simp only[hr];rfl
 have that:aW P ρ { dst:=d,op:=.binOp op t x y yt,type:=ty,pos:=pos,after:=af,guard:=gd }=some (.int k c):=by
  unfold aW;rw[if_pos hp,this];simp only[hpl,if_true]
 rcases hop with rfl|rfl|rfl|rfl <;>
 ·unfold aq;simp only[hx,hy,quick,dK,if_pos];exact that
theorem iQ {s t:TypeId}{x:Operand}{k k':IntKind}{a:Int} (hs:P.underlying s=some (.int k)) (ht:P.underlying t=some (.int k')) (hx:ρ x=.int k a) (hw:k'.wrap a=a) :
  aT P ρ { dst:=d,op:=.convert s t x,type:=ty,pos:=pos,after:=af,guard:=gd } h=some (.int k' a):=by
 unfold aT;simp only[hs,ht];unfold aW
 have h1:(Op.convert s t x).operands.all (fun x=>plain (ρ x))=true:=by
  simp[Op.operands,hx,plain,aJ]
 rw[if_pos h1]
 have e1:∀ u du,P.underlying u=some du->bK P (underlying u)=some du:=by
  intro u du hu;simp only[underlying,dE]
  show Option.bind (some P) _=_
  simp only[Option.bind_some,hu];rfl
 have h2:bK P (execOp ρ { dst:=d,op:=.convert s t x,type:=ty,pos:=pos,after:=af,guard:=gd })=some (.value (.int k' a)):=by
  simp only[execOp,convert,dE,e1 _ _ hs,e1 _ _ ht,Option.bind_some,hx,Conv.intToInt,hw];rfl
 rw[h2];rfl
theorem bz {t:TypeId}{a:Operand}{g off:Nat}{cs:List Value}{ro:Bool}{v:Value} (ha:ρ a=.pointer (some ⟨g,off,none⟩)) (hg:h.get g=some (.cells cs ro)) (ht:fB P t=some false) (hv:cs[off]?=some v) :
  aT P ρ { dst:=d,op:=.load t a,type:=ty,pos:=pos,after:=af,guard:=gd } h=some v:=by
 unfold aT;simp only[ha,kT,hg,ht,hv]
theorem aI {t:TypeId}{a:Operand}{g off n:Nat}{cs l:List Value}{ro:Bool} (ha:ρ a=.pointer (some ⟨g,off,none⟩)) (hg:h.get g=some (.cells cs ro)) (ht:fB P t=some true) (hs:aQ P t=some n) (hle:off+n<=cs.length) (hv:(cs.drop off).take n=l) :
  aT P ρ { dst:=d,op:=.load t a,type:=ty,pos:=pos,after:=af,guard:=gd } h=some (.agg ⟨l⟩):=by
 unfold aT;simp only[ha,kT,hg,ht,hs,if_pos hle,hv]
theorem au {e:Env}{t:TypeId}{a:Tmp}{g off n:Nat}{cs l:List Value}{ro:Bool} (hn:Nat.ble (a+1) e.n=true) (ha:e.get a=.pointer (some ⟨g,off,none⟩)) (hg:h.get g=some (.cells cs ro)) (ht:fB P t=some true) (hs:aQ P t=some n) (hle:off+n<=cs.length) (hv:(cs.drop off).take n=l) :
  iz P e h (.cell a t)=some (.agg ⟨l⟩):=by
 have hn':a<e.n:=Nat.le_of_ble_eq_true hn;simp only[iz,if_pos hn',ha,kT,hg,ht,hs,if_pos hle,hv]
theorem JX {e:Env}{t:TypeId}{a:Tmp}{g off:Nat}{cs:List Value}{ro:Bool}{v:Value} (hn:Nat.ble (a+1) e.n=true) (ha:e.get a=.pointer (some ⟨g,off,none⟩)) (hg:h.get g=some (.cells cs ro)) (ht:fB P t=some false) (hv:cs[off]?=some v) :
  iz P e h (.cell a t)=some v:=by
 have hn':a<e.n:=Nat.le_of_ble_eq_true hn;simp only[iz,if_pos hn',ha,kT,hg,ht,hv]
theorem GR {t:TypeId}{x:Operand}{l:List Value} (hx:cl (ρ x)=l) :
  anew P ρ { dst:=d,op:=.box t x,type:=ty,pos:=pos,after:=af,guard:=gd }=some (.cells l false,fun g=>.pointer (some ⟨g,0,none⟩)):=by
 subst hx;rfl
theorem Jg {t e:TypeId}{x y:Operand}{n b:Nat}{z:Value} (hu:P.underlying t=some (.slice e)) (hs:aQ P e=some 1) (hb:kJ P e=some b) (hz:zeroOf P e=some z) (hz1:z.cells = #[z]) (hp:aJ z=true)
  (hx:ρ x=.int .i64 (Int.ofNat n)) (hy:ρ y=.int .i64 (Int.ofNat n)) (hn:b*n<=2 ^ 48) (hn2:n<2 ^ 63) :
  anew P ρ { dst:=d,op:=.makeSlice t x y,type:=ty,pos:=pos,after:=af,guard:=gd }=some (.cells (List.replicate n z) false,fun g=>.slice (some ⟨g,0,none⟩) n n):=by
 unfold anew;simp only[hu,hx,hy,hs,hb,hz]
 have c:0<=Int.ofNat n/\Int.ofNat n<=Int.ofNat n/\(b:Int)*Int.ofNat n<=2 ^ 48/\Int.ofNat n<2 ^ 63/\z.cells.all aJ=true:=by
  refine⟨Int.natCast_nonneg n,Int.le_refl _,?_,?_,by rw[hz1];simp[hp]⟩
  ·have:((b*n:Nat):Int)<=((2 ^ 48:Nat):Int):=Int.ofNat_le.2 hn;simpa using this
  ·have:((n:Nat):Int)<((2 ^ 63:Nat):Int):=Int.ofNat_lt.2 hn2;simpa using this
 rw[if_pos c,hz1,Nat.mul_one];have:(Int.ofNat n).toNat=n:=rfl;rw[this,Gt]
theorem po {t e:TypeId}{n s:Nat}{ps:Array (Nat×Operand)}{z:Value}{vs:List Value} (hu:P.underlying t=some (.slice e)) (hs:aQ P e=some s) (hz:zeroOf P e=some z) (hp:z.cells.all aJ=true) (hpos:Nat.ble 1 (n*s)=true) (hle:Nat.ble (n*s) (2 ^ 24)=true)
  (hv:ps.toList.map (fun p=>(p.1,ρ p.2))=parts 0 vs) (hn:vs.length=n) (hc:∀ v∈vs,(cl v).length=s) :
  anew P ρ { dst:=d,op:=.buildSlice t n ps,type:=ty,pos:=pos,after:=af,guard:=gd }=some (.cells (flatC vs) false,fun g=>.slice (some ⟨g,0,none⟩) n n):=by
 unfold anew;simp only[hu,hs,hz,hp];have h1:0<n*s:=Nat.le_of_ble_eq_true hpos;have h2:n*s<=2 ^ 24:=Nat.le_of_ble_eq_true hle;simp only[h1,h2,decide_true,Bool.and_self,if_true,hv];have:=pk s vs 0 (iw z.cells (n*s)) [] hc (by simp) (iw z.cells (n*s)).toList (by rw[Array.length_toList,qL,hn]) (by simp);rw[this];simp
theorem IB {t:TypeId}{a x:Operand}{g off n:Nat}{cs l:List Value}{K:Value->Heap->Prop} (ha:ρ a=.pointer (some ⟨g,off,none⟩)) (hg:h.get g=some (.cells cs false)) (hs:aQ P t=some n) (hx:cl (ρ x)=l) (hl:l.length=n)
  (hle:off+n<=cs.length) (h1:l.all Value.oneCell'=true) (k:∀ h1,Upd h g (.cells (bp cs off l) false) h1->K undef h1) :
  ∃ (v:Value) (T:Heap->Prop),(∃ h',dp P ρ { dst:=d,op:=.store t a x,type:=ty,pos:=pos,after:=af,guard:=gd } h=some (v,h')/\T h')/\∀ h1,T h1->K v h1:=by
 refine⟨undef,Upd h g (.cells (bp cs off l) false),⟨_,?_,Upd.upd _ (Heap.ag hg)⟩,k⟩;unfold dp fO;simp only[cl] at hx;simp only[ha,hg,hx];rw[if_pos ⟨by rw[hs,hl],by omega,h1⟩]
structure Grow (h:Heap) (s:Nat) (a:Option Nat) (l:List Value):Prop where
 nil:a=none->l=[]
 get:∀ g,a=some g->h.get g=some (.cells (flatC l) false)
 size:∀ e∈l,(cl e).length=s
 one:(flatC l).all Value.oneCell'=true
def ae (s:Nat) (a:Option Nat) (l:List Value):Value:=.slice (a.map fun g=>⟨g,0,some s⟩) l.length l.length
structure Grown (h:Heap) (s:Nat) (a:Option Nat) (l:List Value) (h1:Heap) (g1:Nat):Prop where
 grow:Grow h1 s (some g1) l
 size:h.size<=h1.size
 fresh:h.size<=g1
 other:∀ k,k<h.size->a≠some k->h1.get k=h.get k
end Go.Abs
