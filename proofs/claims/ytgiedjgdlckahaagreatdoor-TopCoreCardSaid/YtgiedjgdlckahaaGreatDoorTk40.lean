/-
  AbsXk, AbsXg: parts of the proof.
-/
import Derived.Test.YtgiedjgdlckahaaGreatDoorTk39
namespace Go.Abs
def aB (a b:Nat):Nat:=(BitVec.ofNat 64 a &&& BitVec.ofNat 64 b).toNat
def bM (a b:Nat):Nat:=(BitVec.ofNat 64 a ||| BitVec.ofNat 64 b).toNat
def aU (a b:Nat):Nat:=(BitVec.ofNat 64 a &&& ~~~ BitVec.ofNat 64 b).toNat
def lY (a:Nat):Nat:=(~~~ BitVec.ofNat 64 a).toNat
def cz (a k:Nat):Nat:=(a*2 ^ k)%2 ^ 64
theorem iu {a i:Nat} (h:i<64):(BitVec.ofNat 64 a).getLsbD i=a.testBit i:=by rw[BitVec.getLsbD_ofNat];simp[h]
theorem cm {a b i:Nat} (h:i<64):(aB a b).testBit i=(a.testBit i&&b.testBit i):=by
 unfold aB;rw[BitVec.testBit_toNat,BitVec.getLsbD_and,iu h,iu h]
theorem cU {a b i:Nat} (h:i<64):(bM a b).testBit i=(a.testBit i||b.testBit i):=by
 unfold bM;rw[BitVec.testBit_toNat,BitVec.getLsbD_or,iu h,iu h]
theorem cB {a b i:Nat} (h:i<64):(aU a b).testBit i=(a.testBit i && !b.testBit i):=by
 unfold aU;rw[BitVec.testBit_toNat,BitVec.getLsbD_and,BitVec.getLsbD_not,iu h,iu h];simp[h]
theorem qP {a i:Nat} (h:i<64):(lY a).testBit i = !a.testBit i:=by
 unfold lY;rw[BitVec.testBit_toNat,BitVec.getLsbD_not,iu h];simp[h]
theorem CN {k i:Nat} (hi:i<64):(cz 1 k).testBit i=decide (i=k):=by
 unfold cz;rw[Nat.one_mul,Nat.testBit_mod_two_pow,Nat.testBit_two_pow];rw[Bool.eq_iff_iff];simp[hi,eq_comm]
section
variable {P:Program} {ρ:Operand->Value} {d:Option Tmp} {ty:TypeId} {pos:String} {af:Array Edge} {gd:Option (Nat×Bool)} {t yt:TypeId} {x y:Operand} {K:Value->Prop}
theorem yZ (a:Nat):BitVec.ofInt 64 (Int.ofNat a)=BitVec.ofNat 64 a:=by simp only[Int.ofNat_eq_natCast,BitVec.ofInt_natCast]
theorem ye (r:BitVec 64):IntKind.u64.wrap (r.toNat:Nat)=Int.ofNat r.toNat:=nD r.isLt
theorem eV {a b:Nat} (k:K (.int .u64 (Int.ofNat (aB a b)))) (hx:ρ x=.int .u64 (Int.ofNat a):=by exact rfl) (hy:ρ y=.int .u64 (Int.ofNat b):=by exact rfl) :
  ∃ v,aq P ρ { dst:=d,op:=.binOp .and t x y yt,type:=ty,pos:=pos,after:=af,guard:=gd }=some v/\K v:=by
 refine⟨_,Cd (.inl rfl) hx hy ?_,k⟩;unfold Op.intBits
 show some (Value.int .u64 (IntKind.u64.wrap ((BitVec.ofInt 64 (Int.ofNat a) &&& BitVec.ofInt 64 (Int.ofNat b)).toNat:Nat)))=_
 rw[ye,yZ,yZ];rfl
theorem lF {a b:Nat} (k:K (.int .u64 (Int.ofNat (bM a b)))) (hx:ρ x=.int .u64 (Int.ofNat a):=by exact rfl) (hy:ρ y=.int .u64 (Int.ofNat b):=by exact rfl) :
  ∃ v,aq P ρ { dst:=d,op:=.binOp .or t x y yt,type:=ty,pos:=pos,after:=af,guard:=gd }=some v/\K v:=by
 refine⟨_,Cd (.inr (.inl rfl)) hx hy ?_,k⟩;unfold Op.intBits
 show some (Value.int .u64 (IntKind.u64.wrap ((BitVec.ofInt 64 (Int.ofNat a) ||| BitVec.ofInt 64 (Int.ofNat b)).toNat:Nat)))=_
 rw[ye,yZ,yZ];rfl
theorem jg {a b:Nat} (k:K (.int .u64 (Int.ofNat (aU a b)))) (hx:ρ x=.int .u64 (Int.ofNat a):=by exact rfl) (hy:ρ y=.int .u64 (Int.ofNat b):=by exact rfl) :
  ∃ v,aq P ρ { dst:=d,op:=.binOp .andNot t x y yt,type:=ty,pos:=pos,after:=af,guard:=gd }=some v/\K v:=by
 refine⟨_,Cd (.inr (.inr (.inr rfl))) hx hy ?_,k⟩;unfold Op.intBits
 show some (Value.int .u64 (IntKind.u64.wrap ((BitVec.ofInt 64 (Int.ofNat a) &&& ~~~ BitVec.ofInt 64 (Int.ofNat b)).toNat:Nat)))=_
 rw[ye,yZ,yZ];rfl
theorem unK {op:UnOp}{k:IntKind}{a c:Int} (hop:op=.neg\/op=.xor) (hx:ρ x=.int k a) (hr:bK P (Op.unary op (.int k a))=some (.int k c)) :
  aq P ρ { dst:=d,op:=.unOp op t x,type:=ty,pos:=pos,after:=af,guard:=gd }=some (.int k c):=by
 have hp:(Op.unOp op t x).operands.all (fun x=>plain (ρ x))=true:=by simp[Op.operands,hx,plain,aJ]
 have hpl:plain (.int k c)=true:=rfl
 have this:bK P (execOp ρ { dst:=d,op:=.unOp op t x,type:=ty,pos:=pos,after:=af,guard:=gd })=some (.value (.int k c)):=by
  simp only[execOp,dE,hx];rw[hr];rfl
 have that:aW P ρ { dst:=d,op:=.unOp op t x,type:=ty,pos:=pos,after:=af,guard:=gd }=some (.int k c):=by
  unfold aW;rw[if_pos hp,this];simp only[hpl,if_true]
 rcases hop with rfl|rfl <;>
 ·unfold aq;exact that
theorem EP {a:Nat} (k:K (.int .u64 (Int.ofNat (lY a)))) (hx:ρ x=.int .u64 (Int.ofNat a):=by exact rfl) :
  ∃ v,aq P ρ { dst:=d,op:=.unOp .xor t x,type:=ty,pos:=pos,after:=af,guard:=gd }=some v/\K v:=by
 refine⟨_,unK (.inr rfl) hx ?_,k⟩
 show bK P (Op.intBits .xor .u64 (Int.ofNat (2 ^ 64-1)) (Int.ofNat a))=_
 unfold Op.intBits
 show some (Value.int .u64 (IntKind.u64.wrap ((BitVec.ofInt 64 (Int.ofNat (2 ^ 64-1)) ^^^ BitVec.ofInt 64 (Int.ofNat a)).toNat:Nat)))=_
 have e:BitVec.ofNat 64 (2 ^ 64-1)=BitVec.allOnes 64:=by decide
 rw[ye,yZ,yZ,e,BitVec.allOnes_xor];rfl
theorem G1 (m j:Nat) (hj:j<=63) (k:IntKind):bK P (Op.shift .shl .u64 (Int.ofNat m) k (Int.ofNat j))=some (.int .u64 (Int.ofNat (cz m j))):=by
 unfold Op.shift
 have h0:¬ (Int.ofNat j<0):=by simp only[Int.ofNat_eq_natCast];omega
 rw[if_neg h0]
 have h1:min (Int.ofNat j).toNat IntKind.u64.bits=j:=by
  show min j 64=j
  omega
 simp only[h1]
 show some (Value.int .u64 (IntKind.u64.wrap (Int.ofNat m*2 ^ j)))=_
 have e:IntKind.u64.wrap (Int.ofNat m*2 ^ j)=Int.ofNat (cz m j):=by
  show ((m:Int)*2 ^ j)%(2 ^ 64)=(((m*2 ^ j)%2 ^ 64:Nat):Int)
  rw[Int.natCast_emod,Int.natCast_mul,Int.natCast_pow,Int.natCast_pow];rfl
 rw[e]
theorem FY (m j:Nat) (hj:j<=63) (k:IntKind):bK P (Op.shift .shr .u64 (Int.ofNat m) k (Int.ofNat j))=some (.int .u64 (Int.ofNat (m/2 ^ j))):=by
 unfold Op.shift
 have h0:¬ (Int.ofNat j<0):=by simp only[Int.ofNat_eq_natCast];omega
 rw[if_neg h0]
 have h1:min (Int.ofNat j).toNat IntKind.u64.bits=j:=by
  show min j 64=j
  omega
 simp only[h1]
 show some (Value.int .u64 ((Int.ofNat m).fdiv (2 ^ j)))=_
 rw[Int.fdiv_eq_ediv_of_nonneg _ (by exact Int.pow_nonneg (by decide))];congr 2
theorem El {op:BinOp}{a b c:Int} (hop:op=.shl\/op=.shr) (hx:ρ x=.int .u64 a) (hy:ρ y=.int .i64 b) (hr:bK P (Op.shift op .u64 a .i64 b)=some (.int .u64 c)) :
  aq P ρ { dst:=d,op:=.binOp op t x y yt,type:=ty,pos:=pos,after:=af,guard:=gd }=some (.int .u64 c):=by
 have hp:(Op.binOp op t x y yt).operands.all (fun x=>plain (ρ x))=true:=by simp[Op.operands,hx,hy,plain,aJ]
 have hpl:plain (.int .u64 c)=true:=rfl
 have this:bK P (execOp ρ { dst:=d,op:=.binOp op t x y yt,type:=ty,pos:=pos,after:=af,guard:=gd })=some (.value (.int .u64 c)):=by
  rcases hop with rfl|rfl <;>
  ·simp only[execOp,dE,hx,hy,binOp,eqGuard];simp only[hr];rfl
 have that:aW P ρ { dst:=d,op:=.binOp op t x y yt,type:=ty,pos:=pos,after:=af,guard:=gd }=some (.int .u64 c):=by
  unfold aW;rw[if_pos hp,this];simp only[hpl,if_true]
 rcases hop with rfl|rfl <;>
 ·unfold aq;simp only[hx,hy,quick,dK];exact that
theorem Ji {a b:Nat}{W:Prop} (hm:b<=63/\W) (k:W->K (.int .u64 (Int.ofNat (a/2 ^ b)))) (hx:ρ x=.int .u64 (Int.ofNat a):=by exact rfl) (hy:ρ y=.int .i64 (Int.ofNat b):=by exact rfl) :
 ∃ v,aq P ρ { dst:=d,op:=.binOp .shr t x y yt,type:=ty,pos:=pos,after:=af,guard:=gd }=some v/\K v:=⟨_,El (.inr rfl) hx hy (FY a b hm.1 .i64),k hm.2⟩
theorem Ik {a b:Nat}{W:Prop} (hm:b<=63/\W) (k:W->K (.int .u64 (Int.ofNat (cz a b)))) (hx:ρ x=.int .u64 (Int.ofNat a):=by exact rfl) (hy:ρ y=.int .i64 (Int.ofNat b):=by exact rfl) :
 ∃ v,aq P ρ { dst:=d,op:=.binOp .shl t x y yt,type:=ty,pos:=pos,after:=af,guard:=gd }=some v/\K v:=⟨_,El (.inl rfl) hx hy (G1 a b hm.1 .i64),k hm.2⟩
end
end Go.Abs

namespace Go.Abs
structure BearsR (N:Nat) (h0 h:Heap):Prop where
 size:h0.size=N
 le:N<=h.size
 get:∀ g o,h0.get g=some o->∃ cs,o=.cells cs true/\h.get g=some o/\cs.all plain=true
section
variable {P:Program} {N:Nat}
theorem CallD.Jq {f:FuncId}{vs:Array Value}{r:Value}{h0 h:Heap} (c:CallD P N f vs h0 r h0) (hvs:∀ i:Nat,PureV (vs.getD i undef)) (hr:PureV r) (b:BearsR N h0 h) (all:∀ g,g<N->∃ o,h0.get g=some o):CallD P N f vs h r h:=by
 obtain⟨hN,hle,hb⟩:=b;refine⟨Nat.le_refl _,fun ι w vs' H ra=>?_⟩
 have nomut:∀ g,¬ h0.mut g:=by
  rintro g ⟨o,e,m⟩;obtain⟨cs,rfl,_⟩:=hb g o e
  cases m
 have hι:∀ g l,(cut ι N) g=some l->g<N/\ι g=some l:=fun g l e=>aG.1 e
 have H0:HRel N (cut ι N) h0 w:=by
  refine⟨fun g l e=>hN ▸ (hι g l e).1,fun g l e=>H.blk g l (hι g l e).2,?_,?_,fun g g' l l' _ _ _ m _=>absurd m (nomut g),H.frz,fun b C g l _ _ m=>absurd m (nomut g),fun g l cs e1 e2=>?_⟩;rotate_left 2
  ·obtain⟨cs',q,e3,_⟩:=hb g _ e2;exact H.rofz g l cs (hι g l e1).2 e3
  ·intro g hg;obtain⟨l,e1,e2⟩:=H.glob g hg;exact⟨l,aG.2 ⟨hg,e1⟩,e2⟩
  ·intro g l o e1 e2;obtain⟨cs,rfl,e3,hp⟩:=hb g o e2;obtain⟨C,ty,fr,k1,k2,k3,k4,k5⟩:=H.obj g l _ (hι g l e1).2 e3;refine⟨C,ty,fr,k1,k2,k3,k4,fun i x hx=>?_⟩;obtain⟨x',q1,q2⟩:=k5 i x hx;have px:plain x=true:=List.all_eq_true.1 hp x (List.mem_of_getElem? hx);rw[q2.bS px] at q1;exact⟨x,q1,VRel.aN px⟩
 have ra0:bm (cut ι N) vs vs':=⟨ra.1,fun i=>hvs i ι (cut ι N) _ (fun _ _ e=>e) (ra.2 i)⟩
 rcases c.2 _ w vs' H0 ra0 with⟨ok,hc⟩|⟨v',e1,e2,_⟩
 ·refine .inl ⟨ok,hc.mono fun e w' q=>?_⟩;obtain⟨ι',v',rfl,r',H',S⟩:=q;have hf:∀ b,b<w.heap.size->w'.heap[b]?=w.heap[b]?:=fun b hb=>S.frame b hb fun g l _ m=>absurd m (nomut g);have fz:∀ b C,ι.fz b=some C->ι'.fz b=some C:=S.ext.fz;refine⟨ι.with ι',v',rfl,hr ι' _ v' (fun _ _ e=>e) r',⟨H.dom,fun g l e=>Nat.lt_of_lt_of_le (H.blk g l e) S.wsize,H.glob,fun g l o q1 q2=>?_,H.apart,H'.frz,fun b C g l q0 q1 m=>?_,fun g l cs q1 q2=>?_⟩,?_⟩
  ·rw[hf _ (H.blk g l q1)];have le:Inj.Le ι (ι.with ι'):=⟨fun _ _ e=>e,fz⟩;exact (H.obj g l o q1 q2).mono le
  ·cases q:ι.fz b with
   |some C'=>exact H.fzap b C' g l q q1 m
   |none =>
    rcases S.fzown b C q0 q with k|⟨g0,l0,k1,k2⟩
    ·have:=H.blk g l q1;omega
    ·obtain⟨k3,k4⟩:=hι g0 l0 k1;obtain⟨o,k5⟩:=all g0 k3;obtain⟨cs,rfl,k6,_⟩:=hb g0 o k5;obtain⟨C',k7⟩:=H.rofz g0 l0 cs k4 k6;rw[k2,q] at k7
     cases k7
  ·obtain⟨C,e⟩:=H.rofz g l cs q1 q2;exact⟨C,fz _ _ e⟩
  ·exact⟨H.dom,Nat.le_refl _,⟨fun _ _ q=>q,fz⟩,fun g l q1 q2=>(by have q3:ι g=some l:=q1;rw[q2] at q3;cases q3),fun g l q1 q2=>(by have q3:ι g=some l:=q1;rw[q2] at q3;cases q3),fun _ _ m=>m,fun _ _ m=>m,S.wsize,fun b hb _=>hf b hb,fun _ _ _=>rfl,S.out,fun b C q1 q2=>by
    rcases S.fzown b C q1 q2 with k|⟨g0,l0,k1,k2⟩
    ·exact .inl k
    ·exact .inr ⟨g0,l0,(hι g0 l0 k1).2,k2⟩⟩
 ·exact .inr ⟨v',e1,hr (cut ι N) ι _ (fun _ _ e=>e) e2,rfl⟩
end
def A8 (f:Value->Value->Bool):List Value->List Value->Bool
 |[],[]=>true
 |a::l,b::r=>f a b&&A8 f l r
 |_,_=>false
def Iq (b0:Nat) (h:Heap) (f:Value->Value->Bool) (a b:Value):Bool :=
 match a,b with
 |.tuple ⟨x⟩,.tuple ⟨y⟩=>A8 f x y
 |.agg ⟨x⟩,.agg ⟨y⟩=>A8 f x y
 |.slice none 0 0,.iface _ (.tuple ⟨[]⟩)=>true
 |.slice (some ⟨g,off,_⟩) n _,.iface s (.tuple ⟨es⟩)=>Nat.ble b0 g&&match h.get g with
  |some (.cells cs _)=>Nat.beq n es.length&&(es.all fun e=>Nat.beq (cl e).length s)&&Nat.ble (off+n*s) cs.length&&A8 f ((cs.drop off).take (n*s)) (flatC es)
  |_=>false
 |x,y=>veq x y
def clo (b0:Nat) (h:Heap):Nat->Value->Value->Bool
 |0=>veq
 |n+1=>Iq b0 h (clo b0 h n)
theorem sG {h2:Heap}{f:Value->Value->Bool} (hf:∀ a b,f a b=true->VLe h2 a b):∀ {xs ys:List Value},A8 f xs ys=true->LLe h2 xs ys
 |[],[],_=>LLe.nil _
 |[],_::_,e=>by cases e
 |_::_,[],e=>by cases e
 |a::l,b::r,e=>by
  simp only[A8,Bool.and_eq_true] at e;exact LLe.cons (hf _ _ e.1) (sG hf e.2)
theorem Hh {b0:Nat}{h h2:Heap} (F:Frozen b0 h h2) {f:Value->Value->Bool} (hf:∀ a b,f a b=true->VLe h2 a b) {a b:Value} (e:Iq b0 h f a b=true):VLe h2 a b:=by
 unfold Iq at e;split at e
 ·exact VLe.tup (sG hf e)
 ·exact VLe.agg (sG hf e)
 ·exact VLe.nil _ _
 ·rename_i g off sp n cap s es;simp only[Bool.and_eq_true] at e;obtain⟨e1,e2⟩:=e;have hb:=Nat.le_of_ble_eq_true e1;split at e2
  ·rename_i cs ro hg;simp only[Bool.and_eq_true] at e2;obtain⟨⟨⟨e3,e4⟩,e5⟩,e6⟩:=e2;exact VLe.fl (F.at hb hg) (Nat.eq_of_beq_eq_true e3) (fun x m=>Nat.eq_of_beq_eq_true (List.all_eq_true.1 e4 x m)) (Nat.le_of_ble_eq_true e5) (sG hf e6)
  ·cases e2
 ·rw[AR e];exact VLe.refl _ _
theorem FR {b0:Nat}{h h2:Heap} (F:Frozen b0 h h2):∀ (n:Nat) (a b:Value),clo b0 h n a b=true->VLe h2 a b
 |0,a,b,e=>by
  have:a=b:=AR e;rw[this];exact VLe.refl _ _
 |n+1,a,b,e=>Hh F (FR F n) e
def my (b0:Nat) (r:Value):Option (Value×Heap)->Bool
 |some (v,h)=>Nat.ble b0 h.low&&clo b0 h 12 v r
 |none=>false
theorem CP {b0:Nat}{r:Value}{x:Option (Value×Heap)} (e:my b0 r x=true):∃ v h,x=some (v,h)/\b0<=h.low/\clo b0 h 12 v r=true:=by
 unfold my at e;split at e
 ·rename_i v h;simp only[Bool.and_eq_true] at e;exact⟨v,h,rfl,Nat.le_of_ble_eq_true e.1,e.2⟩
 ·cases e
theorem CallD.closed {P:Program}{N:Nat} (hM:P.follows .mixedOrders=true) {l:List AObj} (hN:l.length=N) (hP:∀ (f:FuncId) (fn:Func),([]:List FuncId).contains f=false->P.funcs[f]?=some fn->jU N fn=true) {orc:FuncId->Array Value->Heap->Option Value}
  (ho:∀ f vs h v,orc f vs h=some v->CallD P N f vs h v h) {n:Nat} {f:FuncId} {vs:Array Value} {r:Value} (e:my N r (je P [] orc n f vs (bJ l))=true) (hr:PureV r) (fok:fnOk P f=true):CallD P N f vs (bJ l) r (bJ l):=by
 subst hN;obtain⟨v,h1,e1,e2,e3⟩:=CP e;obtain⟨c,q⟩:=iN hM hP ho n _ _ _ _ _ e1;have hs:((bJ l).fG (bJ l).size)=bJ l:=rfl;have hx:=tU (h:=bJ l) (h1:=h1) (by rw[hs];exact q) e2 h1.low;have hx':Ext (bJ l) h1:=hx;exact c.values hx' hr (fun h2 F=>FR F 12 v r e3) fok
theorem AllPure.arr {l:List Value} (h:AllPure l) (i:Nat):PureV ((⟨l⟩:Array Value).getD i undef):=by
 rw[Array.getD_eq_getD_getElem?,List.getElem?_toArray]
 cases e:l[i]? with
 |none=>exact PureV.flat (v:=Go.undef) (by simp[Go.undef,jm])
 |some v=>exact h v (List.mem_of_getElem? e)
theorem FnV.closed {P:Program}{N:Nat} (hM:P.follows .mixedOrders=true) {l:List AObj} (hN:l.length=N) (hl:∀ o∈l,∃ cs,o=.cells cs true/\cs.all plain=true) (hP:∀ (f:FuncId) (fn:Func),([]:List FuncId).contains f=false->P.funcs[f]?=some fn->jU N fn=true) {orc:FuncId->Array Value->Heap->Option Value}
  (ho:∀ f vs h v,orc f vs h=some v->CallD P N f vs h v h) {n:Nat} {f:FuncId} {vs:List Value} {r:Value} (e:my N r (je P [] orc n f ⟨vs⟩ (bJ l))=true) (hvs:AllPure vs) (hr:PureV r) (fok:fnOk P f=true) (h0:0<N):FnV P N l f ⟨vs⟩ r:=by
 refine⟨hr,fun h hB=>(CallD.closed hM hN hP ho e hr fok).Jq hvs.arr hr ⟨hN,?_,fun g o q=>?_⟩ fun g hg=>?_⟩
 ·obtain⟨o,ho⟩:∃ o,l[N-1]?=some o:=⟨_,List.getElem?_eq_getElem (by omega)⟩;have:=Heap.ag (hB _ _ ho);omega
 ·rw[dm] at q;obtain⟨cs,rfl,hp⟩:=hl o (List.mem_of_getElem? q);exact⟨cs,rfl,hB _ _ q,hp⟩
 ·rw[<- hN] at hg;exact⟨_,by rw[dm];exact List.getElem?_eq_getElem hg⟩
end Go.Abs
