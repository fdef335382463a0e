/- Parts of the proof. -/
import Derived.Test.YtglgdkineobbeaaGreatDoorTn22
open Go.IntWalk renaming i64_in->Ow
open Go.Op renaming operands->Mi
open Go.Value renaming oneCell'->MV
open Go.Value.int renaming injEq->N5
open Int renaming ofNat->LQ
open Nat renaming ble->NK
namespace Go.Abs
variable {P:Program} {ρ:Operand->Value} {d:Option Tmp} {ty:TypeId} {pos:String} {af:Array Edge} {gd:Option (Nat×Bool)} {h:Heap}
theorem HRel.le{N:Nat}{ι:Inj}{w:World}(H:HRel N ι h w):N<=h.size:=by
 cases N with
 |zero=>exact L1 _
 |succ n =>
  obtain⟨l,e,_⟩:=H.glob n (ML n);exact H.dom n l e
theorem al.sized{N:Nat}{f:FuncId}{vs:Array Value}{v:Value}(c:N<=h.size->al P N f vs h v h):al P N f vs h v h :=
 ⟨LV _,λι w vs' H r=>(c H.le).2 ι w vs' H r⟩
def Lz(cs:List Value)(off:Nat)(e:Value):Prop:=off+(cl e).length<=cs.length/\(cs.drop off).take (cl e).length=cl e
def Sl(h:Heap)(s:Nat)(v:Value)(l:List Value):Prop :=
 (v=.slice none 0 0/\l=[])\/∃g off sp cap cs ro,v=.slice (some ⟨g,off,sp⟩) l.length cap/\l.length<=cap/\h.get g=some (.cells cs ro)/\∀j e,l[j]?=some e->Lz cs (off+j*s) e/\(cl e).length=s
theorem cb{t e:TypeId}{x i:Operand}{g off s n cap j:Nat}{sp:Option Nat}{k:IntKind}{K:Value->Prop}
  (hu:P.underlying t=some (.slice e)) (hs:bb P e=some s) (hx:ρ x=.slice (some ⟨g,off,sp⟩) n cap) (hi:ρ i=.int k (LQ j)) (hj:j<n)
  (hk:K (.pointer (some ⟨g,off+j*s,none⟩))) :
  ∃v,aC P ρ { dst:=d,op:=.indexAddr t x i,type:=ty,pos:=pos,after:=af,guard:=gd }=some v/\K v:=by
 refine⟨_,?_,hk⟩;unfold aC;simp only[hu,hx,hi,hs];have c:0<=LQ j/\LQ j<(n:Int):=⟨MN j,by simpa using hj⟩;rw[if_pos c];rfl
theorem zO{op:BinOp}{t yt:TypeId}{x y:Operand}{k:IntKind}{a b:Int}{v:Value}(hx:ρ x=.int k a)(hy:ρ y=.int k b)(hv:fF op k a b=some v) :
  aC P ρ { dst:=d,op:=.binOp op t x y yt,type:=ty,pos:=pos,after:=af,guard:=gd }=some v:=by
 unfold aC;simp only[hx,hy,quick,if_pos,hv]
theorem KA{t yt:TypeId}{x y:Operand}{a b:Nat}(hx:ρ x=.int .i64 (LQ a))(hy:ρ y=.int .i64 (LQ b))(hb:a+b<2^63) :
  aC P ρ { dst:=d,op:=.binOp .add t x y yt,type:=ty,pos:=pos,after:=af,guard:=gd }=some (.int .i64 (LQ (a+b))):=by
 refine zO hx hy ?_;simp only[fF,LR,N5,true_and];rw[Ow _ (by simp only[L4];omega)];rfl
theorem LH{t yt:TypeId}{x y:Operand}{a b:Nat}(hx:ρ x=.int .i64 (LQ a))(hy:ρ y=.int .i64 (LQ b))(hle:b<=a)(hb:a<2^63) :
  aC P ρ { dst:=d,op:=.binOp .sub t x y yt,type:=ty,pos:=pos,after:=af,guard:=gd }=some (.int .i64 (LQ (a-b))):=by
 refine zO hx hy ?_;simp only[fF,LR,N5,true_and];rw[Ow _ (by simp only[L4];omega)];simp only[L4];omega
theorem AL{op:BinOp}{t yt:TypeId}{x y:Operand}{k:IntKind}{a b c:Int}(hop:op=.and\/op=.or\/op=.xor\/op=.andNot)(hx:ρ x=.int k a)(hy:ρ y=.int k b)(hr:cq P (Op.intBits op k a b)=some (.int k c)) :
  aC P ρ { dst:=d,op:=.binOp op t x y yt,type:=ty,pos:=pos,after:=af,guard:=gd }=some (.int k c):=by
 have hp:(Op.binOp op t x y yt).operands.all (λx=>plain (ρ x))=true:=by simp[Mi,hx,hy,plain,aR]
 have hpl:plain (.int k c)=true:=rfl
 have this:cq P (execOp ρ { dst:=d,op:=.binOp op t x y yt,type:=ty,pos:=pos,after:=af,guard:=gd })=some (.value (.int k c)):=by
  rcases hop with rfl|rfl|rfl|rfl <;>
  .simp only[execOp,dQ,hx,hy,binOp,eqGuard,ne_eq,not_true_eq_false,if_false];simp only[hr];rfl
 have that:bx P ρ { dst:=d,op:=.binOp op t x y yt,type:=ty,pos:=pos,after:=af,guard:=gd }=some (.int k c):=by
  unfold bx;rw[if_pos hp,this];simp only[hpl,if_true]
 rcases hop with rfl|rfl|rfl|rfl <;>
 .unfold aC;simp only[hx,hy,quick,fF,if_pos];exact that
theorem oB{s t:TypeId}{x:Operand}{k k':IntKind}{a:Int}(hs:P.underlying s=some (.int k))(ht:P.underlying t=some (.int k'))(hx:ρ x=.int k a)(hw:k'.wrap a=a) :
  bp P ρ { dst:=d,op:=.convert s t x,type:=ty,pos:=pos,after:=af,guard:=gd } h=some (.int k' a):=by
 unfold bp;simp only[hs,ht];unfold bx
 have h1:(Op.convert s t x).operands.all (λx=>plain (ρ x))=true:=by
  simp[Mi,hx,plain,aR]
 rw[if_pos h1]
 have e1:∀u du,P.underlying u=some du->cq P (underlying u)=some du:=by
  intro u du hu;simp only[underlying,dQ]
  show Option.bind (some P) _=_
  simp only[Oo,hu];rfl
 have h2:cq P (execOp ρ { dst:=d,op:=.convert s t x,type:=ty,pos:=pos,after:=af,guard:=gd })=some (.value (.int k' a)):=by
  simp only[execOp,convert,dQ,e1 _ _ hs,e1 _ _ ht,Oo,hx,Conv.intToInt,hw];rfl
 rw[h2];rfl
theorem bw{t:TypeId}{a:Operand}{g off:Nat}{cs:List Value}{ro:Bool}{v:Value}(ha:ρ a=.pointer (some ⟨g,off,none⟩))(hg:h.get g=some (.cells cs ro))(ht:iz P t=some false)(hv:cs[off]?=some v) :
  bp P ρ { dst:=d,op:=.load t a,type:=ty,pos:=pos,after:=af,guard:=gd } h=some v:=by
 unfold bp;simp only[ha,mJ,hg,ht,hv]
theorem aM{t:TypeId}{a:Operand}{g off n:Nat}{cs l:List Value}{ro:Bool}(ha:ρ a=.pointer (some ⟨g,off,none⟩))(hg:h.get g=some (.cells cs ro))(ht:iz P t=some true)(hs:bb P t=some n)(hle:off+n<=cs.length)(hv:(cs.drop off).take n=l) :
  bp P ρ { dst:=d,op:=.load t a,type:=ty,pos:=pos,after:=af,guard:=gd } h=some (.agg ⟨l⟩):=by
 unfold bp;simp only[ha,mJ,hg,ht,hs,if_pos hle,hv]
theorem aI{e:Env}{t:TypeId}{a:Tmp}{g off n:Nat}{cs l:List Value}{ro:Bool}(hn:NK (a+1) e.n=true)(ha:e.get a=.pointer (some ⟨g,off,none⟩))(hg:h.get g=some (.cells cs ro))(ht:iz P t=some true)(hs:bb P t=some n)(hle:off+n<=cs.length)(hv:(cs.drop off).take n=l) :
  ka P e h (.cell a t)=some (.agg ⟨l⟩):=by
 have hn':a<e.n:=Mq hn;simp only[ka,if_pos hn',ha,mJ,hg,ht,hs,if_pos hle,hv]
theorem KM{e:Env}{t:TypeId}{a:Tmp}{g off:Nat}{cs:List Value}{ro:Bool}{v:Value}(hn:NK (a+1) e.n=true)(ha:e.get a=.pointer (some ⟨g,off,none⟩))(hg:h.get g=some (.cells cs ro))(ht:iz P t=some false)(hv:cs[off]?=some v) :
  ka P e h (.cell a t)=some v:=by
 have hn':a<e.n:=Mq hn;simp only[ka,if_pos hn',ha,mJ,hg,ht,hv]
theorem sh{t:TypeId}{x:Operand}{l:List Value}(hx:cl (ρ x)=l) :
  ew P ρ { dst:=d,op:=.box t x,type:=ty,pos:=pos,after:=af,guard:=gd }=some (.cells l false,λg=>.pointer (some ⟨g,0,none⟩)):=by
 subst hx;rfl
theorem K7{t e:TypeId}{x y:Operand}{n b:Nat}{z:Value}(hu:P.underlying t=some (.slice e))(hs:bb P e=some 1)(hb:kH P e=some b)(hz:zeroOf P e=some z)(hz1:z.cells = #[z])(hp:aR z=true)
  (hx:ρ x=.int .i64 (LQ n)) (hy:ρ y=.int .i64 (LQ n)) (hn:b*n<=2^48) (hn2:n<2^63) :
  ew P ρ { dst:=d,op:=.makeSlice t x y,type:=ty,pos:=pos,after:=af,guard:=gd }=some (.cells (List.replicate n z) false,λg=>.slice (some ⟨g,0,none⟩) n n):=by
 unfold ew;simp only[hu,hx,hy,hs,hb,hz]
 have c:0<=LQ n/\LQ n<=LQ n/\(b:Int)*LQ n<=2^48/\LQ n<2^63/\z.cells.all aR=true:=by
  refine⟨MN n,Int.le_refl _,?_,?_,by rw[hz1];simp[hp]⟩
  .have:((b*n:Nat):Int)<=((2^48:Nat):Int):=Pf.2 hn;simpa using this
  .have:((n:Nat):Int)<((2^63:Nat):Int):=RZ.2 hn2;simpa using this
 rw[if_pos c,hz1,PQ];have:(LQ n).toNat=n:=rfl;rw[this,HW]
theorem CI{t e:TypeId}{n s:Nat}{ps:Array (Nat×Operand)}{z:Value}{vs:List Value}(hu:P.underlying t=some (.slice e))(hs:bb P e=some s)(hz:zeroOf P e=some z)(hp:z.cells.all aR=true)(hpos:NK 1 (n*s)=true)(hle:NK (n*s) (2^24)=true)
  (hv:ps.toList.map (λp=>(p.1,ρ p.2))=parts 0 vs) (hn:vs.length=n) (hc:∀v∈vs,(cl v).length=s) :
  ew P ρ { dst:=d,op:=.buildSlice t n ps,type:=ty,pos:=pos,after:=af,guard:=gd }=some (.cells (ah vs) false,λg=>.slice (some ⟨g,0,none⟩) n n):=by
 unfold ew;simp only[hu,hs,hz,hp];have h1:0<n*s:=Mq hpos;have h2:n*s<=2^24:=Mq hle;simp only[h1,h2,decide_true,Bool.and_self,if_true,hv];have:=qJ s vs 0 (jW z.cells (n*s)) [] hc (by simp) (jW z.cells (n*s)).toList (by rw[NF,sP,hn]) (by simp);rw[this];simp
theorem GZ{t:TypeId}{a x:Operand}{g off n:Nat}{cs l:List Value}{K:Value->Heap->Prop}(ha:ρ a=.pointer (some ⟨g,off,none⟩))(hg:h.get g=some (.cells cs false))(hs:bb P t=some n)(hx:cl (ρ x)=l)(hl:l.length=n)
  (hle:off+n<=cs.length) (h1:l.all MV=true) (k:∀h1,Upd h g (.cells (bJ cs off l) false) h1->K undef h1) :
  ∃(v:Value) (T:Heap->Prop),(∃h',cZ P ρ { dst:=d,op:=.store t a x,type:=ty,pos:=pos,after:=af,guard:=gd } h=some (v,h')/\T h')/\∀h1,T h1->K v h1:=by
 refine⟨undef,Upd h g (.cells (bJ cs off l) false),⟨_,?_,Upd.upd _ (Heap.ai hg)⟩,k⟩;unfold cZ fa;simp only[cl] at hx;simp only[ha,hg,hx];rw[if_pos ⟨by rw[hs,hl],by omega,h1⟩]
structure Grow (h:Heap) (s:Nat) (a:Option Nat) (l:List Value):Prop where
 nil:a=none->l=[]
 get:∀g,a=some g->h.get g=some (.cells (ah l) false)
 size:∀e∈l,(cl e).length=s
 one:(ah l).all MV=true
def ak(s:Nat)(a:Option Nat)(l:List Value):Value:=.slice (a.map λg=>⟨g,0,some s⟩) l.length l.length
structure Grown (h:Heap) (s:Nat) (a:Option Nat) (l:List Value) (h1:Heap) (g1:Nat):Prop where
 grow:Grow h1 s (some g1) l
 size:h.size<=h1.size
 fresh:h.size<=g1
 other:∀k,k<h.size->a≠some k->h1.get k=h.get k
end Go.Abs
