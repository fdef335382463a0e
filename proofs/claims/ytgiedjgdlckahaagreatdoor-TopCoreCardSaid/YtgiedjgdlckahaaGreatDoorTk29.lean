/-
  AbsXr: parts of the proof.
-/
import Derived.Test.YtgiedjgdlckahaaGreatDoorTk28
namespace Go.Abs
variable {P:Program} {ρ:Operand->Value} {d:Option Tmp} {ty:TypeId} {pos:String} {af:Array Edge} {gd:Option (Nat×Bool)}
theorem H8 {t e:TypeId}{x i:Operand}{j q n s:Nat}{kk:IntKind}{cs:List Value}{v:Value}{K:Value->Prop} (hu:P.underlying t=some (.array n e)) (hs:aQ P e=some s) (hx:ρ x=FP (.agg ⟨cs⟩)) (hi:ρ i=.int kk (Int.ofNat j)) (hq:j=q) (hn:Nat.ble (q+1) n=true) (hv:uC P e ⟨cs⟩ (q*s)=some v) (hk:K v) :
  ∃ v,aq P ρ { dst:=d,op:=.indexAddr t x i,type:=ty,pos:=pos,after:=af,guard:=gd }=some v/\K v:=by
 subst hq;refine⟨_,?_,hk⟩;unfold aq;simp only[hu,hx,FP,hi,hs,hn,hv]
theorem rJ {α:Type}{enc:α->Value}{s j:Nat}{l:List α}{h:Heap} (hs:∀ x:α,(cl (enc x)).length=s) {y:α} (hy:l[j]?=some y) {x:α}{k:Nat}{v v':Value} (hk:k+[v'].length<=s) (hx:cl (enc x)=bp (cl (enc y)) k [v']) (hv:VLe h v v') :
  LLe h (bp (flatC (l.map enc)) (0+j*s+k) [v]) (flatC ((l.set j x).map enc)):=by
 rw[<- vo hs hy hk hx];exact LLe.bp hv
theorem wj {α:Type}{enc:α->Value}{s j:Nat}{a:Option Nat}{l:List α}{x:α}:ae s a (l.map enc)=ae s a ((l.set j x).map enc):=by
 unfold ae;simp only[List.length_map,List.length_set]
theorem cE {α:Type}{g:α}{Q:Prop} (e:(some g:Option α)=none):Q:=nomatch e
def cv {κ ν:Type} [DecidableEq κ]:List (κ×ν)->κ->Option ν
 |[],_=>none
 |p::r,k=>if k=p.1 then some p.2 else cv r k
def kh {κ ν:Type} [DecidableEq κ]:List (κ×ν)->κ->ν->List (κ×ν)
 |[],k,v=>[(k,v)]
 |p::r,k,v=>if k=p.1 then (k,v)::r else p::kh r k v
def jT {κ ν:Type} [DecidableEq κ]:List (κ×ν)->κ->Nat->Option (Nat×ν)
 |[],_,_=>none
 |p::r,k,i=>if k=p.1 then some (i,p.2) else jT r k (i+1)
section
variable {κ ν:Type} [DecidableEq κ] {ek:κ->Value} {ev:ν->Value} {kd:TypeDesc}
def bT (ek:κ->Value) (ev:ν->Value) (m:List (κ×ν)):List (Value×Value):=m.map fun p=>(ek p.1,ev p.2)
theorem nT {kt:TypeId} (hk:∀ a b,eM P kt kd (ek a) (ek b)=some (decide (a=b))) (k:κ):∀ (m:List (κ×ν)) (i:Nat),nm P kt kd (ek k) (bT ek ev m) i=some ((jT m k i).map fun q=>(q.1,ev q.2))
 |[],i=>rfl
 |p::r,i=>by
  show (match eM P kt kd (ek k) (ek p.1) with|some true=>_|some false=>_|none=>_)=_
  rw[hk];unfold jT;by_cases c:k=p.1
  ·simp[c]
  ·simp only[c,decide_false,if_false];exact nT hk k r (i+1)
theorem oW (k:κ):∀ (m:List (κ×ν)) (i:Nat),(jT m k i).map (·.2)=cv m k
 |[],_=>rfl
 |p::r,i=>by
  unfold jT cv;by_cases c:k=p.1
  ·simp[c]
  ·simp only[c,if_false];exact oW k r (i+1)
theorem tu (k:κ) (v:ν):∀ (m:List (κ×ν)) (i:Nat),match jT m k i with
  |some (j,_)=>i<=j/\(bT ek ev m).set (j-i) (ek k,ev v)=bT ek ev (kh m k v)
  |none=>bT ek ev m++[(ek k,ev v)]=bT ek ev (kh m k v)
 |[],i=>rfl
 |p::r,i=>by
  unfold jT kh;by_cases c:k=p.1
  ·simp only[c,if_true];exact⟨Nat.le_refl _,by rw[Nat.sub_self];rfl⟩
  ·simp only[c,if_false];have:=tu k v r (i+1)
   cases hq:jT r k (i+1) with
   |none =>
    rw[hq] at this;simp only at this ⊢;exact congrArg (List.cons _) this
   |some q =>
    obtain⟨j,w⟩:=q;rw[hq] at this;simp only at this ⊢;obtain⟨h1,h2⟩:=this;refine⟨by omega,?_⟩
    have e:j-i=(j-(i+1))+1:=by omega
    show (_::bT ek ev r).set (j-i) _=_::bT ek ev (kh r k v)
    rw[e,List.set_cons_succ,h2]
theorem GG {h:Heap}{t kt e:TypeId}{x i:Operand}{g:Nat}{m:List (κ×ν)}{k:κ}{z:ν} (hu:P.underlying t=some (.map kt e)) (hkt:P.underlying kt=some kd) (hz:zeroOf P e=some (ev z)) (hkk:lD P kt kd (ek k)=true) (hpl:plain (ev z)=true)
  (hk:∀ a b,eM P kt kd (ek a) (ek b)=some (decide (a=b))) (hg:h.get g=some (.map (bT ek ev m))) (hx:ρ x=.map (some g)) (hi:ρ i=ek k) :
  aT P ρ { dst:=d,op:=.lookup t x i false,type:=ty,pos:=pos,after:=af,guard:=gd } h=some (ev ((cv m k).getD z)):=by
 unfold aT;simp only[hu,hkt,hz,hx,entriesOf,hg];rw[hi,if_pos ⟨hkk,hpl⟩,nT hk,<- oW k m 0]
 cases jT m k 0 <;> rfl
theorem nP {h:Heap}{t kt e:TypeId}{x i:Operand}{g:Nat}{m:List (κ×ν)}{k:κ}{z:ν} (hu:P.underlying t=some (.map kt e)) (hkt:P.underlying kt=some kd) (hz:zeroOf P e=some (ev z)) (hkk:lD P kt kd (ek k)=true) (hpl:plain (ev z)=true)
  (hk:∀ a b,eM P kt kd (ek a) (ek b)=some (decide (a=b))) (hg:h.get g=some (.map (bT ek ev m))) (hx:ρ x=.map (some g)) (hi:ρ i=ek k) :
  aT P ρ { dst:=d,op:=.lookup t x i true,type:=ty,pos:=pos,after:=af,guard:=gd } h=some (.tuple ⟨[ev ((cv m k).getD z),.bool (cv m k).isSome]⟩):=by
 unfold aT;simp only[hu,hkt,hz,hx,entriesOf,hg];rw[hi,if_pos ⟨hkk,hpl⟩,nT hk,<- oW k m 0]
 cases jT m k 0 <;> rfl
theorem bytes_beq (a b:ByteArray):(a==b)=decide (a=b):=by
 obtain⟨a⟩:=a;obtain⟨b⟩:=b
 have:((ByteArray.mk a)==(ByteArray.mk b))=(a==b):=by first|rfl|decide
 rw[this,Bool.eq_iff_iff];simp
theorem Cj {kt:TypeId} (a b:ByteArray):eM P kt .string (.string a) (.string b)=some (decide (a=b)):=by
 show some (a==b)=_
 rw[bytes_beq]
theorem sX {kt:TypeId} (a b:Nat):eM P kt (.int .i64) (i64 a) (i64 b)=some (decide (a=b)):=by
 show some (Int.ofNat a==Int.ofNat b)=_
 congr 1;exact kI a b
variable {N:Nat} {B:List AObj} {h0 h:Heap} {L:List Slot}
theorem Own.Bd {t kt e:TypeId}{x i y:Operand}{g:Nat}{m:List (κ×ν)}{k:κ}{v:ν}{f:Slot->List Slot}{K:Value->Heap->Prop} (O:Own B h0 L h) (A:At (some g,.map (bT ek ev m)) L f) (hu:P.underlying t=some (.map kt e)) (hkt:P.underlying kt=some kd) (hkk:lD P kt kd (ek k)=true)
  (hk:∀ a b,eM P kt kd (ek a) (ek b)=some (decide (a=b))) (hx:ρ x=.map (some g)) (hi:ρ i=ek k) (hy:ρ y=ev v) (kk:∀ h1,Own B h0 (f (some g,.map (bT ek ev (kh m k v)))) h1->K undef h1) :
  ∃ (v:Value) (T:Heap->Prop),(∃ h',dp P ρ { dst:=d,op:=.mapUpdate t x i y,type:=ty,pos:=pos,after:=af,guard:=gd } h=some (v,h')/\T h')/\∀ h1,T h1->K v h1:=by
 have hg:=O.at A.mem;have u:=Upd.upd (.map (bT ek ev (kh m k v))) (Heap.ag hg);refine⟨undef,fun h1=>h1=h.upd g (.map (bT ek ev (kh m k v))),⟨_,?_,rfl⟩,fun h1 e=>?_⟩
 ·unfold dp fO;simp only[hu,hkt,hx,hi,hy];rw[if_pos hkk];unfold An;simp only[hg];rw[nT hk];have:=tu (ek:=ek) (ev:=ev) k v m 0
  cases hq:jT m k 0 with
  |none =>
   rw[hq] at this;simp only at this;simp only[Option.map_none,this]
  |some q =>
   obtain⟨j,w⟩:=q;rw[hq] at this;simp only[Nat.sub_zero] at this;simp only[Option.map_some,this.2]
 ·subst e;exact kk _ (O.upd A u)
end
end Go.Abs
