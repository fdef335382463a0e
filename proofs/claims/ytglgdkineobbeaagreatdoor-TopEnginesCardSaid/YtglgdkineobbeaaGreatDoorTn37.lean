/- Parts of the proof. -/
import Derived.Test.YtglgdkineobbeaaGreatDoorTn36
open BitVec renaming getLsbD_and->RP,ofInt->NN,ofNat->Ph,testBit_toNat->Qj
open Go.IntKind renaming u64->Oj
open Go.Op renaming intBits->QE,shift->QF
open Go.Value renaming int->O5
open Int renaming natCast_pow->Sb,ofNat->LQ
open Nat renaming beq->NZ,ble->NK
namespace Go.Abs
def aK(a b:Nat):Nat:=(Ph 64 a &&& Ph 64 b).toNat
def dK(a b:Nat):Nat:=(Ph 64 a ||| Ph 64 b).toNat
def bF(a b:Nat):Nat:=(Ph 64 a &&& ~~~ Ph 64 b).toNat
def cH(a k:Nat):Nat:=(a*2^k)%2^64
theorem lh{a i:Nat}(h:i<64):(Ph 64 a).getLsbD i=a.testBit i:=by rw[BitVec.getLsbD_ofNat];simp[h]
theorem dz{a b i:Nat}(h:i<64):(aK a b).testBit i=(a.testBit i&&b.testBit i):=by
 unfold aK;rw[Qj,RP,lh h,lh h]
theorem jz{a b i:Nat}(h:i<64):(dK a b).testBit i=(a.testBit i||b.testBit i):=by
 unfold dK;rw[Qj,BitVec.getLsbD_or,lh h,lh h]
theorem gB{a b i:Nat}(h:i<64):(bF a b).testBit i=(a.testBit i && !b.testBit i):=by
 unfold bF;rw[Qj,RP,BitVec.getLsbD_not,lh h,lh h];simp[h]
theorem E9{k i:Nat}(hi:i<64):(cH 1 k).testBit i=decide (i=k):=by
 unfold cH;rw[Oh,Nat.testBit_mod_two_pow,RB];rw[MW];simp[hi,eq_comm]
section
variable {P:Program} {ρ:Operand->Value} {d:Option Tmp} {ty:TypeId} {pos:String} {af:Array Edge} {gd:Option (Nat×Bool)} {t yt:TypeId} {x y:Operand} {K:Value->Prop}
theorem EX(a:Nat):NN 64 (LQ a)=Ph 64 a:=by simp only[L4,BitVec.ofInt_natCast]
theorem Cz(r:BitVec 64):Oj.wrap (r.toNat:Nat)=LQ r.toNat:=pA r.isLt
theorem jt{a b:Nat}(k:K (.int .u64 (LQ (aK a b))))(hx:ρ x=.int .u64 (LQ a):=by exact rfl)(hy:ρ y=.int .u64 (LQ b):=by exact rfl) :
  ∃v,aC P ρ { dst:=d,op:=.binOp .and t x y yt,type:=ty,pos:=pos,after:=af,guard:=gd }=some v/\K v:=by
 refine⟨_,AL (.inl rfl) hx hy ?_,k⟩;unfold QE
 show some (O5 .u64 (Oj.wrap ((NN 64 (LQ a) &&& NN 64 (LQ b)).toNat:Nat)))=_
 rw[Cz,EX,EX];rfl
theorem uL{a b:Nat}(k:K (.int .u64 (LQ (dK a b))))(hx:ρ x=.int .u64 (LQ a):=by exact rfl)(hy:ρ y=.int .u64 (LQ b):=by exact rfl) :
  ∃v,aC P ρ { dst:=d,op:=.binOp .or t x y yt,type:=ty,pos:=pos,after:=af,guard:=gd }=some v/\K v:=by
 refine⟨_,AL (.inr (.inl rfl)) hx hy ?_,k⟩;unfold QE
 show some (O5 .u64 (Oj.wrap ((NN 64 (LQ a) ||| NN 64 (LQ b)).toNat:Nat)))=_
 rw[Cz,EX,EX];rfl
theorem oH{a b:Nat}(k:K (.int .u64 (LQ (bF a b))))(hx:ρ x=.int .u64 (LQ a):=by exact rfl)(hy:ρ y=.int .u64 (LQ b):=by exact rfl) :
  ∃v,aC P ρ { dst:=d,op:=.binOp .andNot t x y yt,type:=ty,pos:=pos,after:=af,guard:=gd }=some v/\K v:=by
 refine⟨_,AL (.inr (.inr (.inr rfl))) hx hy ?_,k⟩;unfold QE
 show some (O5 .u64 (Oj.wrap ((NN 64 (LQ a) &&& ~~~ NN 64 (LQ b)).toNat:Nat)))=_
 rw[Cz,EX,EX];rfl
theorem Jd(m j:Nat)(hj:j<=63)(k:IntKind):cq P (QF .shl .u64 (LQ m) k (LQ j))=some (.int .u64 (LQ (cH m j))):=by
 unfold QF
 have h0:¬ (LQ j<0):=by simp only[L4];omega
 rw[if_neg h0]
 have h1:min (LQ j).toNat Oj.bits=j:=by
  show min j 64=j
  omega
 simp only[h1]
 show some (O5 .u64 (Oj.wrap (LQ m*2^j)))=_
 have e:Oj.wrap (LQ m*2^j)=LQ (cH m j):=by
  show ((m:Int)*2^j)%(2^64)=(((m*2^j)%2^64:Nat):Int)
  rw[Int.natCast_emod,Int.natCast_mul,Sb,Sb];rfl
 rw[e]
theorem Hh(m j:Nat)(hj:j<=63)(k:IntKind):cq P (QF .shr .u64 (LQ m) k (LQ j))=some (.int .u64 (LQ (m/2^j))):=by
 unfold QF
 have h0:¬ (LQ j<0):=by simp only[L4];omega
 rw[if_neg h0]
 have h1:min (LQ j).toNat Oj.bits=j:=by
  show min j 64=j
  omega
 simp only[h1]
 show some (O5 .u64 ((LQ m).fdiv (2^j)))=_
 rw[QH _ (by exact Int.pow_nonneg (by decide))];congr 2
theorem Ga{op:BinOp}{a b c:Int}(hop:op=.shl\/op=.shr)(hx:ρ x=.int .u64 a)(hy:ρ y=.int .i64 b)(hr:cq P (QF op .u64 a .i64 b)=some (.int .u64 c)) :
  aC P ρ { dst:=d,op:=.binOp op t x y yt,type:=ty,pos:=pos,after:=af,guard:=gd }=some (.int .u64 c):=by
 have hp:(Op.binOp op t x y yt).operands.all (λx=>plain (ρ x))=true:=by simp[Op.operands,hx,hy,plain,aR]
 have hpl:plain (.int .u64 c)=true:=rfl
 have this:cq P (execOp ρ { dst:=d,op:=.binOp op t x y yt,type:=ty,pos:=pos,after:=af,guard:=gd })=some (.value (.int .u64 c)):=by
  rcases hop with rfl|rfl <;>
  .simp only[execOp,dQ,hx,hy,binOp,eqGuard];simp only[hr];rfl
 have that:bx P ρ { dst:=d,op:=.binOp op t x y yt,type:=ty,pos:=pos,after:=af,guard:=gd }=some (.int .u64 c):=by
  unfold bx;rw[if_pos hp,this];simp only[hpl,if_true]
 rcases hop with rfl|rfl <;>
 .unfold aC;simp only[hx,hy,quick,fF];exact that
theorem JG{a b:Nat}{W:Prop}(hm:b<=63/\W)(k:W->K (.int .u64 (LQ (a/2^b))))(hx:ρ x=.int .u64 (LQ a):=by exact rfl)(hy:ρ y=.int .i64 (LQ b):=by exact rfl) :
 ∃v,aC P ρ { dst:=d,op:=.binOp .shr t x y yt,type:=ty,pos:=pos,after:=af,guard:=gd }=some v/\K v:=⟨_,Ga (.inr rfl) hx hy (Hh a b hm.1 .i64),k hm.2⟩
theorem JD{a b:Nat}{W:Prop}(hm:b<=63/\W)(k:W->K (.int .u64 (LQ (cH a b))))(hx:ρ x=.int .u64 (LQ a):=by exact rfl)(hy:ρ y=.int .i64 (LQ b):=by exact rfl) :
 ∃v,aC P ρ { dst:=d,op:=.binOp .shl t x y yt,type:=ty,pos:=pos,after:=af,guard:=gd }=some v/\K v:=⟨_,Ga (.inl rfl) hx hy (Jd a b hm.1 .i64),k hm.2⟩
end
end Go.Abs

namespace Go.Abs
structure BearsR (N:Nat) (h0 h:Heap):Prop where
 size:h0.size=N
 le:N<=h.size
 get:∀g o,h0.get g=some o->∃cs,o=.cells cs true/\h.get g=some o/\cs.all plain=true
section
variable {P:Program} {N:Nat}
theorem al.KL{f:FuncId}{vs:Array Value}{r:Value}{h0 h:Heap}(c:al P N f vs h0 r h0)(hvs:∀i:Nat,aq (vs.getD i undef))(hr:aq r)(b:BearsR N h0 h)(all:∀g,g<N->∃o,h0.get g=some o):al P N f vs h r h:=by
 obtain⟨hN,hle,hb⟩:=b;refine⟨LV _,λι w vs' H ra=>?_⟩
 have nomut:∀g,¬ h0.mut g:=by
  rintro g ⟨o,e,m⟩;obtain⟨cs,rfl,_⟩:=hb g o e
  cases m
 have hι:∀g l,(cut ι N) g=some l->g<N/\ι g=some l:=λg l e=>aO.1 e
 have H0:HRel N (cut ι N) h0 w:=by
  refine⟨λg l e=>hN ▸ (hι g l e).1,λg l e=>H.blk g l (hι g l e).2,?_,?_,λg g' l l' _ _ _ m _=>absurd m (nomut g),H.frz,λb C g l _ _ m=>absurd m (nomut g),λg l cs e1 e2=>?_⟩;rotate_left 2
  .obtain⟨cs',q,e3,_⟩:=hb g _ e2;exact H.rofz g l cs (hι g l e1).2 e3
  .intro g hg;obtain⟨l,e1,e2⟩:=H.glob g hg;exact⟨l,aO.2 ⟨hg,e1⟩,e2⟩
  .intro g l o e1 e2;obtain⟨cs,rfl,e3,hp⟩:=hb g o e2;obtain⟨C,ty,fr,k1,k2,k3,k4,k5⟩:=H.obj g l _ (hι g l e1).2 e3;refine⟨C,ty,fr,k1,k2,k3,k4,λi x hx=>?_⟩;obtain⟨x',q1,q2⟩:=k5 i x hx;have px:plain x=true:=Md.1 hp x (LS hx);rw[q2.cv px] at q1;exact⟨x,q1,VRel.aU px⟩
 have ra0:bB (cut ι N) vs vs':=⟨ra.1,λi=>hvs i ι (cut ι N) _ (λ_ _ e=>e) (ra.2 i)⟩
 rcases c.2 _ w vs' H0 ra0 with⟨ok,hc⟩|⟨v',e1,e2,_⟩
 .refine .inl ⟨ok,hc.mono λe w' q=>?_⟩;obtain⟨ι',v',rfl,r',H',S⟩:=q;have hf:∀b,b<w.heap.size->w'.heap[b]?=w.heap[b]?:=λb hb=>S.frame b hb λg l _ m=>absurd m (nomut g);have fz:∀b C,ι.fz b=some C->ι'.fz b=some C:=S.ext.fz;refine⟨ι.with ι',v',rfl,hr ι' _ v' (λ_ _ e=>e) r',⟨H.dom,λg l e=>Mr (H.blk g l e) S.wsize,H.glob,λg l o q1 q2=>?_,H.apart,H'.frz,λb C g l q0 q1 m=>?_,λg l cs q1 q2=>?_⟩,?_⟩
  .rw[hf _ (H.blk g l q1)];have le:Inj.Le ι (ι.with ι'):=⟨λ_ _ e=>e,fz⟩;exact (H.obj g l o q1 q2).mono le
  .cases q:ι.fz b with
   |some C'=>exact H.fzap b C' g l q q1 m
   |none =>
    rcases S.fzown b C q0 q with k|⟨g0,l0,k1,k2⟩
    .have:=H.blk g l q1;omega
    .obtain⟨k3,k4⟩:=hι g0 l0 k1;obtain⟨o,k5⟩:=all g0 k3;obtain⟨cs,rfl,k6,_⟩:=hb g0 o k5;obtain⟨C',k7⟩:=H.rofz g0 l0 cs k4 k6;rw[k2,q] at k7
     cases k7
  .obtain⟨C,e⟩:=H.rofz g l cs q1 q2;exact⟨C,fz _ _ e⟩
  .exact⟨H.dom,LV _,⟨λ_ _ q=>q,fz⟩,λg l q1 q2=>(by have q3:ι g=some l:=q1;rw[q2] at q3;cases q3),λg l q1 q2=>(by have q3:ι g=some l:=q1;rw[q2] at q3;cases q3),λ_ _ m=>m,λ_ _ m=>m,S.wsize,λb hb _=>hf b hb,λ_ _ _=>rfl,S.out,λb C q1 q2=>by
    rcases S.fzown b C q1 q2 with k|⟨g0,l0,k1,k2⟩
    .exact .inl k
    .exact .inr ⟨g0,l0,(hι g0 l0 k1).2,k2⟩⟩
 .exact .inr ⟨v',e1,hr (cut ι N) ι _ (λ_ _ e=>e) e2,rfl⟩
end
def EJ(f:Value->Value->Bool):List Value->List Value->Bool
 |[],[]=>true
 |a::l,b::r=>f a b&&EJ f l r
 |_,_=>false
def JX(b0:Nat)(h:Heap)(f:Value->Value->Bool)(a b:Value):Bool :=
 match a,b with
 |.tuple ⟨x⟩,.tuple ⟨y⟩=>EJ f x y
 |.agg ⟨x⟩,.agg ⟨y⟩=>EJ f x y
 |.slice none 0 0,.iface _ (.tuple ⟨[]⟩)=>true
 |.slice (some ⟨g,off,_⟩) n _,.iface s (.tuple ⟨es⟩)=>NK b0 g&&match h.get g with
  |some (.cells cs _)=>NZ n es.length&&(es.all λe=>NZ (cl e).length s)&&NK (off+n*s) cs.length&&EJ f ((cs.drop off).take (n*s)) (ah es)
  |_=>false
 |x,y=>veq x y
def clo(b0:Nat)(h:Heap):Nat->Value->Value->Bool
 |0=>veq
 |n+1=>JX b0 h (clo b0 h n)
theorem vc{h2:Heap}{f:Value->Value->Bool}(hf:∀a b,f a b=true->VLe h2 a b):∀{xs ys:List Value},EJ f xs ys=true->LLe h2 xs ys
 |[],[],_=>LLe.nil _
 |[],_::_,e=>by cases e
 |_::_,[],e=>by cases e
 |a::l,b::r,e=>by
  simp only[EJ,L9] at e;exact LLe.cons (hf _ _ e.1) (vc hf e.2)
theorem Ii{b0:Nat}{h h2:Heap}(F:Frozen b0 h h2){f:Value->Value->Bool}(hf:∀a b,f a b=true->VLe h2 a b){a b:Value}(e:JX b0 h f a b=true):VLe h2 a b:=by
 unfold JX at e;split at e
 .exact VLe.tup (vc hf e)
 .exact VLe.agg (vc hf e)
 .exact VLe.nil _ _
 .rename_i g off sp n cap s es;simp only[L9] at e;obtain⟨e1,e2⟩:=e;have hb:=Mq e1;split at e2
  .rename_i cs ro hg;simp only[L9] at e2;obtain⟨⟨⟨e3,e4⟩,e5⟩,e6⟩:=e2;exact VLe.fl (F.at hb hg) (M6 e3) (λx m=>M6 (Md.1 e4 x m)) (Mq e5) (vc hf e6)
  .cases e2
 .rw[Cv e];exact VLe.refl _ _
theorem GM{b0:Nat}{h h2:Heap}(F:Frozen b0 h h2):∀(n:Nat) (a b:Value),clo b0 h n a b=true->VLe h2 a b
 |0,a,b,e=>by
  have:a=b:=Cv e;rw[this];exact VLe.refl _ _
 |n+1,a,b,e=>Ii F (GM F n) e
def oW(b0:Nat)(r:Value):Option (Value×Heap)->Bool
 |some (v,h)=>NK b0 h.low&&clo b0 h 12 v r
 |none=>false
theorem EO{b0:Nat}{r:Value}{x:Option (Value×Heap)}(e:oW b0 r x=true):∃v h,x=some (v,h)/\b0<=h.low/\clo b0 h 12 v r=true:=by
 unfold oW at e;split at e
 .rename_i v h;simp only[L9] at e;exact⟨v,h,rfl,Mq e.1,e.2⟩
 .cases e
theorem al.closed{P:Program}{N:Nat}(hM:P.follows .mixedOrders=true){l:List AObj}(hN:l.length=N)(hP:∀(f:FuncId) (fn:Func),([]:List FuncId).contains f=false->P.funcs[f]?=some fn->jO N fn=true){orc:FuncId->Array Value->Heap->Option Value}
  (ho:∀f vs h v,orc f vs h=some v->al P N f vs h v h) {n:Nat} {f:FuncId} {vs:Array Value} {r:Value} (e:oW N r (km P [] orc n f vs (cj l))=true) (hr:aq r) (fok:lp P f=true):al P N f vs (cj l) r (cj l):=by
 subst hN;obtain⟨v,h1,e1,e2,e3⟩:=EO e;obtain⟨c,q⟩:=kp hM hP ho n _ _ _ _ _ e1;have hs:((cj l).iI (cj l).size)=cj l:=rfl;have hx:=xb (h:=cj l) (h1:=h1) (by rw[hs];exact q) e2 h1.low;have hx':Ext (cj l) h1:=hx;exact c.values hx' hr (λh2 F=>GM F 12 v r e3) fok
theorem ag.arr{l:List Value}(h:ag l)(i:Nat):aq ((⟨l⟩:Array Value).getD i undef):=by
 rw[LW,MR]
 cases e:l[i]? with
 |none=>exact aq.flat (v:=Go.undef) (by simp[Go.undef,oR])
 |some v=>exact h v (LS e)
theorem FnV.closed{P:Program}{N:Nat}(hM:P.follows .mixedOrders=true){l:List AObj}(hN:l.length=N)(hl:∀o∈l,∃cs,o=.cells cs true/\cs.all plain=true)(hP:∀(f:FuncId) (fn:Func),([]:List FuncId).contains f=false->P.funcs[f]?=some fn->jO N fn=true){orc:FuncId->Array Value->Heap->Option Value}
  (ho:∀f vs h v,orc f vs h=some v->al P N f vs h v h) {n:Nat} {f:FuncId} {vs:List Value} {r:Value} (e:oW N r (km P [] orc n f ⟨vs⟩ (cj l))=true) (hvs:ag vs) (hr:aq r) (fok:lp P f=true) (h0:0<N):FnV P N l f ⟨vs⟩ r:=by
 refine⟨hr,λh hB=>(al.closed hM hN hP ho e hr fok).KL hvs.arr hr ⟨hN,?_,λg o q=>?_⟩ λg hg=>?_⟩
 .obtain⟨o,ho⟩:∃o,l[N-1]?=some o:=⟨_,LU (by omega)⟩;have:=Heap.ai (hB _ _ ho);omega
 .rw[eh] at q;obtain⟨cs,rfl,hp⟩:=hl o (LS q);exact⟨cs,rfl,hB _ _ q,hp⟩
 .rw[<- hN] at hg;exact⟨_,by rw[eh];exact LU hg⟩
end Go.Abs
