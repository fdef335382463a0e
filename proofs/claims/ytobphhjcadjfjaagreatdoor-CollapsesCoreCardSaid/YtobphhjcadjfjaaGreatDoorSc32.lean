/-
  AbsXr: parts of the proof.
-/
import Derived.Test.YtobphhjcadjfjaaGreatDoorSc31
namespace Go.Abs
variable {P:Program} {ρ:Operand->Value} {d:Option Tmp} {ty:TypeId} {pos:String} {af:Array Edge} {gd:Option (Nat×Bool)}
theorem DR {t e:TypeId}{x i:Operand}{j q n s:Nat}{kk:IntKind}{cs:List Value}{v:Value}{K:Value->Prop} (hu:P.underlying t=some (.array n e)) (hs:aO P e=some s) (hx:ρ x=FP (.agg ⟨cs⟩)) (hi:ρ i=.int kk (Int.ofNat j)) (hq:j=q) (hn:Nat.ble (q+1) n=true) (hv:sn P e ⟨cs⟩ (q*s)=some v) (hk:K v) :
  ∃ v,au P ρ { dst:=d,op:=.indexAddr t x i,type:=ty,pos:=pos,after:=af,guard:=gd }=some v/\K v:=by
 subst hq
 refine⟨_,?_,hk⟩
 unfold au
 simp only[hu,hx,FP,hi,hs,hn,hv]
theorem qB {α:Type}{enc:α->Value}{s j:Nat}{l:List α}{h:Heap} (hs:∀ x:α,(cl (enc x)).length=s) {y:α} (hy:l[j]?=some y) {x:α}{k:Nat}{v v':Value} (hk:k+[v'].length<=s) (hx:cl (enc x)=bJ (cl (enc y)) k [v']) (hv:VLe h v v') :
  LLe h (bJ (flatC (l.map enc)) (0+j*s+k) [v]) (flatC ((l.set j x).map enc)):=by
 rw[<- tq hs hy hk hx]
 exact LLe.bJ hv
theorem ub {α:Type}{enc:α->Value}{s j:Nat}{a:Option Nat}{l:List α}{x:α}:ag s a (l.map enc)=ag s a ((l.set j x).map enc):=by
 unfold ag
 simp only[List.length_map,List.length_set]
theorem cz {α:Type}{g:α}{Q:Prop} (e:(some g:Option α)=none):Q:=nomatch e
def cc {κ ν:Type} [DecidableEq κ]:List (κ×ν)->κ->Option ν
 |[],_=>none
 |p::r,k=>if k=p.1 then some p.2 else cc r k
def iQ {κ ν:Type} [DecidableEq κ]:List (κ×ν)->κ->ν->List (κ×ν)
 |[],k,v=>[(k,v)]
 |p::r,k,v=>if k=p.1 then (k,v)::r else p::iQ r k v
def jh {κ ν:Type} [DecidableEq κ]:List (κ×ν)->κ->Nat->Option (Nat×ν)
 |[],_,_=>none
 |p::r,k,i=>if k=p.1 then some (i,p.2) else jh r k (i+1)
section
variable {κ ν:Type} [DecidableEq κ] {ek:κ->Value} {ev:ν->Value} {kd:TypeDesc}
def bF (ek:κ->Value) (ev:ν->Value) (m:List (κ×ν)):List (Value×Value):=m.map fun p=>(ek p.1,ev p.2)
theorem mz {kt:TypeId} (hk:∀ a b,eJ P kt kd (ek a) (ek b)=some (decide (a=b))) (k:κ):∀ (m:List (κ×ν)) (i:Nat),lH P kt kd (ek k) (bF ek ev m) i=some ((jh m k i).map fun q=>(q.1,ev q.2))
 |[],i=>rfl
 |p::r,i=>by
  show (match eJ P kt kd (ek k) (ek p.1) with|some true=>_|some false=>_|none=>_)=_
  rw[hk]
  unfold jh
  by_cases c:k=p.1
  ·simp[c]
  ·simp only[c,decide_false,if_false]
   exact mz hk k r (i+1)
theorem ny (k:κ):∀ (m:List (κ×ν)) (i:Nat),(jh m k i).map (·.2)=cc m k
 |[],_=>rfl
 |p::r,i=>by
  unfold jh cc
  by_cases c:k=p.1
  ·simp[c]
  ·simp only[c,if_false]
   exact ny k r (i+1)
theorem ta (k:κ) (v:ν):∀ (m:List (κ×ν)) (i:Nat),match jh m k i with
  |some (j,_)=>i<=j/\(bF ek ev m).set (j-i) (ek k,ev v)=bF ek ev (iQ m k v)
  |none=>bF ek ev m++[(ek k,ev v)]=bF ek ev (iQ m k v)
 |[],i=>rfl
 |p::r,i=>by
  unfold jh iQ
  by_cases c:k=p.1
  ·simp only[c,if_true]
   exact⟨Nat.le_refl _,by rw[Nat.sub_self];rfl⟩
  ·simp only[c,if_false]
   have:=ta k v r (i+1)
   cases hq:jh r k (i+1) with
   |none =>
    rw[hq] at this
    simp only at this ⊢
    exact congrArg (List.cons _) this
   |some q =>
    obtain⟨j,w⟩:=q
    rw[hq] at this
    simp only at this ⊢
    obtain⟨h1,h2⟩:=this
    refine⟨by omega,?_⟩
    have e:j-i=(j-(i+1))+1:=by omega
    show (_::bF ek ev r).set (j-i) _=_::bF ek ev (iQ r k v)
    rw[e,List.set_cons_succ,h2]
theorem zF {h:Heap}{t kt e:TypeId}{x i:Operand}{g:Nat}{m:List (κ×ν)}{k:κ}{z:ν} (hu:P.underlying t=some (.map kt e)) (hkt:P.underlying kt=some kd) (hz:zeroOf P e=some (ev z)) (hkk:kQ P kt kd (ek k)=true) (hpl:plain (ev z)=true)
  (hk:∀ a b,eJ P kt kd (ek a) (ek b)=some (decide (a=b))) (hg:h.get g=some (.map (bF ek ev m))) (hx:ρ x=.map (some g)) (hi:ρ i=ek k) :
  aR P ρ { dst:=d,op:=.lookup t x i false,type:=ty,pos:=pos,after:=af,guard:=gd } h=some (ev ((cc m k).getD z)):=by
 unfold aR
 simp only[hu,hkt,hz,hx,entriesOf,hg]
 rw[hi,if_pos ⟨hkk,hpl⟩,mz hk,<- ny k m 0]
 cases jh m k 0 <;> rfl
theorem mP {h:Heap}{t kt e:TypeId}{x i:Operand}{g:Nat}{m:List (κ×ν)}{k:κ}{z:ν} (hu:P.underlying t=some (.map kt e)) (hkt:P.underlying kt=some kd) (hz:zeroOf P e=some (ev z)) (hkk:kQ P kt kd (ek k)=true) (hpl:plain (ev z)=true)
  (hk:∀ a b,eJ P kt kd (ek a) (ek b)=some (decide (a=b))) (hg:h.get g=some (.map (bF ek ev m))) (hx:ρ x=.map (some g)) (hi:ρ i=ek k) :
  aR P ρ { dst:=d,op:=.lookup t x i true,type:=ty,pos:=pos,after:=af,guard:=gd } h=some (.tuple ⟨[ev ((cc m k).getD z),.bool (cc m k).isSome]⟩):=by
 unfold aR
 simp only[hu,hkt,hz,hx,entriesOf,hg]
 rw[hi,if_pos ⟨hkk,hpl⟩,mz hk,<- ny k m 0]
 cases jh m k 0 <;> rfl
theorem bytes_beq (a b:ByteArray):(a==b)=decide (a=b):=by
 obtain⟨a⟩:=a
 obtain⟨b⟩:=b
 have:((ByteArray.mk a)==(ByteArray.mk b))=(a==b):=by first|rfl|decide
 rw[this,Bool.eq_iff_iff]
 simp
theorem zk {kt:TypeId} (a b:ByteArray):eJ P kt .string (.string a) (.string b)=some (decide (a=b)):=by
 show some (a==b)=_
 rw[bytes_beq]
theorem mB {kt:TypeId} (a b:Nat):eJ P kt (.int .i64) (i64 a) (i64 b)=some (decide (a=b)):=by
 show some (Int.ofNat a==Int.ofNat b)=_
 congr 1
 exact nD a b
variable {N:Nat} {B:List AObj} {h0 h:Heap} {L:List Slot}
theorem Own.vd {t kt e:TypeId}{x i y:Operand}{g:Nat}{m:List (κ×ν)}{k:κ}{v:ν}{f:Slot->List Slot}{K:Value->Heap->Prop} (O:Own B h0 L h) (A:At (some g,.map (bF ek ev m)) L f) (hu:P.underlying t=some (.map kt e)) (hkt:P.underlying kt=some kd) (hkk:kQ P kt kd (ek k)=true)
  (hk:∀ a b,eJ P kt kd (ek a) (ek b)=some (decide (a=b))) (hx:ρ x=.map (some g)) (hi:ρ i=ek k) (hy:ρ y=ev v) (kk:∀ h1,Own B h0 (f (some g,.map (bF ek ev (iQ m k v)))) h1->K undef h1) :
  ∃ (v:Value) (T:Heap->Prop),(∃ h',dA P ρ { dst:=d,op:=.mapUpdate t x i y,type:=ty,pos:=pos,after:=af,guard:=gd } h=some (v,h')/\T h')/\∀ h1,T h1->K v h1:=by
 have hg:=O.at A.mem
 have u:=Upd.upd (.map (bF ek ev (iQ m k v))) (Heap.aj hg)
 refine⟨undef,fun h1=>h1=h.upd g (.map (bF ek ev (iQ m k v))),⟨_,?_,rfl⟩,fun h1 e=>?_⟩
 ·unfold dA gL
  simp only[hu,hkt,hx,hi,hy]
  rw[if_pos hkk]
  unfold wS
  simp only[hg]
  rw[mz hk]
  have:=ta (ek:=ek) (ev:=ev) k v m 0
  cases hq:jh m k 0 with
  |none =>
   rw[hq] at this
   simp only at this
   simp only[Option.map_none,this]
  |some q =>
   obtain⟨j,w⟩:=q
   rw[hq] at this
   simp only[Nat.sub_zero] at this
   simp only[Option.map_some,this.2]
 ·subst e
  exact kk _ (O.upd A u)
end
end Go.Abs
