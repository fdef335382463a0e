/- Parts of the proof. -/
import Derived.Test.YtglgdkineobbeaaGreatDoorTn27
open ByteArray renaming mk->RY
open Int renaming ofNat->LQ
namespace Go.Abs
variable {P:Program} {ρ:Operand->Value} {d:Option Tmp} {ty:TypeId} {pos:String} {af:Array Edge} {gd:Option (Nat×Bool)}
theorem JE{t e:TypeId}{x i:Operand}{j q n s:Nat}{kk:IntKind}{cs:List Value}{v:Value}{K:Value->Prop}(hu:P.underlying t=some (.array n e))(hs:bb P e=some s)(hx:ρ x=FP (.agg ⟨cs⟩))(hi:ρ i=.int kk (LQ j))(hq:j=q)(hn:Nat.ble (q+1) n=true)(hv:wG P e ⟨cs⟩ (q*s)=some v)(hk:K v) :
  ∃v,aC P ρ { dst:=d,op:=.indexAddr t x i,type:=ty,pos:=pos,after:=af,guard:=gd }=some v/\K v:=by
 subst hq;refine⟨_,?_,hk⟩;unfold aC;simp only[hu,hx,FP,hi,hs,hn,hv]
theorem uA{α:Type}{enc:α->Value}{s j:Nat}{l:List α}{h:Heap}(hs:∀x:α,(cl (enc x)).length=s){y:α}(hy:l[j]?=some y){x:α}{k:Nat}{v v':Value}(hk:k+[v'].length<=s)(hx:cl (enc x)=bJ (cl (enc y)) k [v'])(hv:VLe h v v') :
  LLe h (bJ (ah (l.map enc)) (0+j*s+k) [v]) (ah ((l.set j x).map enc)):=by
 rw[<- wm hs hy hk hx];exact LLe.bJ hv
theorem yp{α:Type}{enc:α->Value}{s j:Nat}{a:Option Nat}{l:List α}{x:α}:ak s a (l.map enc)=ak s a ((l.set j x).map enc):=by
 unfold ak;simp only[LZ,Nj]
theorem jo{α:Type}{g:α}{Q:Prop}(e:(some g:Option α)=none):Q:=nomatch e
def bY{κ ν:Type}[DecidableEq κ]:List (κ×ν)->κ->Option ν
 |[],_=>none
 |p::r,k=>if k=p.1 then some p.2 else bY r k
def gQ{κ ν:Type}[DecidableEq κ]:List (κ×ν)->κ->ν->List (κ×ν)
 |[],k,v=>[(k,v)]
 |p::r,k,v=>if k=p.1 then (k,v)::r else p::gQ r k v
def bU{κ ν:Type}[DecidableEq κ]:List (κ×ν)->κ->Nat->Option (Nat×ν)
 |[],_,_=>none
 |p::r,k,i=>if k=p.1 then some (i,p.2) else bU r k (i+1)
section
variable {κ ν:Type} [DecidableEq κ] {ek:κ->Value} {ev:ν->Value} {kd:TypeDesc}
def aY(ek:κ->Value)(ev:ν->Value)(m:List (κ×ν)):List (Value×Value):=m.map λp=>(ek p.1,ev p.2)
theorem ld{kt:TypeId}(hk:∀a b,fo P kt kd (ek a) (ek b)=some (decide (a=b)))(k:κ):∀(m:List (κ×ν)) (i:Nat),mQ P kt kd (ek k) (aY ek ev m) i=some ((bU m k i).map λq=>(q.1,ev q.2))
 |[],i=>rfl
 |p::r,i=>by
  show (match fo P kt kd (ek k) (ek p.1) with|some true=>_|some false=>_|none=>_)=_
  rw[hk];unfold bU;by_cases c:k=p.1
  .simp[c]
  .simp only[c,decide_false,if_false];exact ld hk k r (i+1)
theorem iP(k:κ):∀(m:List (κ×ν)) (i:Nat),(bU m k i).map (·.2)=bY m k
 |[],_=>rfl
 |p::r,i=>by
  unfold bU bY;by_cases c:k=p.1
  .simp[c]
  .simp only[c,if_false];exact iP k r (i+1)
theorem xj(k:κ)(v:ν):∀(m:List (κ×ν)) (i:Nat),match bU m k i with
  |some (j,_)=>i<=j/\(aY ek ev m).set (j-i) (ek k,ev v)=aY ek ev (gQ m k v)
  |none=>aY ek ev m++[(ek k,ev v)]=aY ek ev (gQ m k v)
 |[],i=>rfl
 |p::r,i=>by
  unfold bU gQ;by_cases c:k=p.1
  .simp only[c,if_true];exact⟨LV _,by rw[Nx];rfl⟩
  .simp only[c,if_false];have:=xj k v r (i+1)
   cases hq:bU r k (i+1) with
   |none =>
    rw[hq] at this;simp only at this ⊢;exact congrArg (List.cons _) this
   |some q =>
    obtain⟨j,w⟩:=q;rw[hq] at this;simp only at this ⊢;obtain⟨h1,h2⟩:=this;refine⟨by omega,?_⟩
    have e:j-i=(j-(i+1))+1:=by omega
    show (_::aY ek ev r).set (j-i) _=_::aY ek ev (gQ r k v)
    rw[e,QG,h2]
theorem iD{h:Heap}{t kt e:TypeId}{x i:Operand}{g:Nat}{m:List (κ×ν)}{k:κ}{z:ν}(hu:P.underlying t=some (.map kt e))(hkt:P.underlying kt=some kd)(hz:zeroOf P e=some (ev z))(hkk:ke P kt kd (ek k)=true)(hpl:plain (ev z)=true)
  (hk:∀a b,fo P kt kd (ek a) (ek b)=some (decide (a=b))) (hg:h.get g=some (.map (aY ek ev m))) (hx:ρ x=.map (some g)) (hi:ρ i=ek k) :
  bp P ρ { dst:=d,op:=.lookup t x i false,type:=ty,pos:=pos,after:=af,guard:=gd } h=some (ev ((bY m k).getD z)):=by
 unfold bp;simp only[hu,hkt,hz,hx,entriesOf,hg];rw[hi,if_pos ⟨hkk,hpl⟩,ld hk,<- iP k m 0]
 cases bU m k 0 <;> rfl
theorem bytes_beq(a b:ByteArray):(a==b)=decide (a=b):=by
 obtain⟨a⟩:=a;obtain⟨b⟩:=b
 have:((RY a)==(RY b))=(a==b):=by first|rfl|decide
 rw[this,MW];simp
theorem Dm{kt:TypeId}(a b:ByteArray):fo P kt .string (.string a) (.string b)=some (decide (a=b)):=by
 show some (a==b)=_
 rw[bytes_beq]
theorem gT{kt:TypeId}(a b:Nat):fo P kt (.int .i64) (i64 a) (i64 b)=some (decide (a=b)):=by
 show some (LQ a==LQ b)=_
 congr 1;exact oL a b
variable {N:Nat} {B:List AObj} {h0 h:Heap} {L:List Slot}
theorem Own.nv{t kt e:TypeId}{x i y:Operand}{g:Nat}{m:List (κ×ν)}{k:κ}{v:ν}{f:Slot->List Slot}{K:Value->Heap->Prop}(O:Own B h0 L h)(A:At (some g,.map (aY ek ev m)) L f)(hu:P.underlying t=some (.map kt e))(hkt:P.underlying kt=some kd)(hkk:ke P kt kd (ek k)=true)
  (hk:∀a b,fo P kt kd (ek a) (ek b)=some (decide (a=b))) (hx:ρ x=.map (some g)) (hi:ρ i=ek k) (hy:ρ y=ev v) (kk:∀h1,Own B h0 (f (some g,.map (aY ek ev (gQ m k v)))) h1->K undef h1) :
  ∃(v:Value) (T:Heap->Prop),(∃h',cZ P ρ { dst:=d,op:=.mapUpdate t x i y,type:=ty,pos:=pos,after:=af,guard:=gd } h=some (v,h')/\T h')/\∀h1,T h1->K v h1:=by
 have hg:=O.at A.mem;have u:=Upd.upd (.map (aY ek ev (gQ m k v))) (Heap.ai hg);refine⟨undef,λh1=>h1=h.upd g (.map (aY ek ev (gQ m k v))),⟨_,?_,rfl⟩,λh1 e=>?_⟩
 .unfold cZ fa;simp only[hu,hkt,hx,hi,hy];rw[if_pos hkk];unfold A0;simp only[hg];rw[ld hk];have:=xj (ek:=ek) (ev:=ev) k v m 0
  cases hq:bU m k 0 with
  |none =>
   rw[hq] at this;simp only at this;simp only[Oi,this]
  |some q =>
   obtain⟨j,w⟩:=q;rw[hq] at this;simp only[Ou] at this;simp only[MI,this.2]
 .subst e;exact kk _ (O.upd A u)
end
end Go.Abs
