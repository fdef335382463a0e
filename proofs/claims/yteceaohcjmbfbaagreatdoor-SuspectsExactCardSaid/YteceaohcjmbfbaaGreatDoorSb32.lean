/-
  AbsXr: parts of the proof.
-/
import Derived.Test.YteceaohcjmbfbaaGreatDoorSb31
namespace Go.Abs
variable {P:Program} {ρ:Operand->Value} {d:Option Tmp} {ty:TypeId} {pos:String} {af:Array Edge} {gd:Option (Nat×Bool)}
theorem growV_set {α:Type}{enc:α->Value}{s j:Nat}{a:Option Nat}{l:List α}{x:α}:growV s a (l.map enc)=growV s a ((l.set j x).map enc):=by
 unfold growV
 simp only[List.length_map,List.length_set]
theorem someNone {α:Type}{g:α}{Q:Prop} (e:(some g:Option α)=none):Q:=nomatch e
def mget {κ ν:Type} [DecidableEq κ]:List (κ×ν)->κ->Option ν
 |[],_=>none
 |p::r,k=>if k=p.1 then some p.2 else mget r k
def mset {κ ν:Type} [DecidableEq κ]:List (κ×ν)->κ->ν->List (κ×ν)
 |[],k,v=>[(k,v)]
 |p::r,k,v=>if k=p.1 then (k,v)::r else p::mset r k v
def mfindI {κ ν:Type} [DecidableEq κ]:List (κ×ν)->κ->Nat->Option (Nat×ν)
 |[],_,_=>none
 |p::r,k,i=>if k=p.1 then some (i,p.2) else mfindI r k (i+1)
section
variable {κ ν:Type} [DecidableEq κ] {ek:κ->Value} {ev:ν->Value} {kd:TypeDesc}
def encM (ek:κ->Value) (ev:ν->Value) (m:List (κ×ν)):List (Value×Value):=m.map fun p=>(ek p.1,ev p.2)
theorem findA_enc {kt:TypeId} (hk:∀ a b,keySame P kt kd (ek a) (ek b)=some (decide (a=b))) (k:κ):∀ (m:List (κ×ν)) (i:Nat),findA P kt kd (ek k) (encM ek ev m) i=some ((mfindI m k i).map fun q=>(q.1,ev q.2))
 |[],i=>rfl
 |p::r,i=>by
  show (match keySame P kt kd (ek k) (ek p.1) with|some true=>_|some false=>_|none=>_)=_
  rw[hk]
  unfold mfindI
  by_cases c:k=p.1
  ·simp[c]
  ·simp only[c,decide_false,if_false]
   exact findA_enc hk k r (i+1)
theorem mfindI_get (k:κ):∀ (m:List (κ×ν)) (i:Nat),(mfindI m k i).map (·.2)=mget m k
 |[],_=>rfl
 |p::r,i=>by
  unfold mfindI mget
  by_cases c:k=p.1
  ·simp[c]
  ·simp only[c,if_false]
   exact mfindI_get k r (i+1)
theorem mfindI_set (k:κ) (v:ν):∀ (m:List (κ×ν)) (i:Nat),match mfindI m k i with
  |some (j,_)=>i<=j/\(encM ek ev m).set (j-i) (ek k,ev v)=encM ek ev (mset m k v)
  |none=>encM ek ev m++[(ek k,ev v)]=encM ek ev (mset m k v)
 |[],i=>rfl
 |p::r,i=>by
  unfold mfindI mset
  by_cases c:k=p.1
  ·simp only[c,if_true]
   exact⟨Nat.le_refl _,by rw[Nat.sub_self];rfl⟩
  ·simp only[c,if_false]
   have:=mfindI_set k v r (i+1)
   cases hq:mfindI r k (i+1) with
   |none =>
    rw[hq] at this
    simp only at this ⊢
    exact congrArg (List.cons _) this
   |some q =>
    obtain⟨j,w⟩:=q
    rw[hq] at this
    simp only at this ⊢
    obtain⟨h1,h2⟩:=this
    refine⟨by omega,?_⟩
    have e:j-i=(j-(i+1))+1:=by omega
    show (_::encM ek ev r).set (j-i) _=_::encM ek ev (mset r k v)
    rw[e,List.set_cons_succ,h2]
theorem lookupK {h:Heap}{t kt e:TypeId}{x i:Operand}{g:Nat}{m:List (κ×ν)}{k:κ}{z:ν} (hu:P.underlying t=some (.map kt e)) (hkt:P.underlying kt=some kd) (hz:zeroOf P e=some (ev z)) (hkk:keyFine P kt kd (ek k)=true) (hpl:plain (ev z)=true)
  (hk:∀ a b,keySame P kt kd (ek a) (ek b)=some (decide (a=b))) (hg:h.get g=some (.map (encM ek ev m))) (hx:ρ x=.map (some g)) (hi:ρ i=ek k) :
  aread P ρ { dst:=d,op:=.lookup t x i false,type:=ty,pos:=pos,after:=af,guard:=gd } h=some (ev ((mget m k).getD z)):=by
 unfold aread
 simp only[hu,hkt,hz,hx,entriesOf,hg]
 rw[hi,if_pos ⟨hkk,hpl⟩,findA_enc hk,<- mfindI_get k m 0]
 cases mfindI m k 0 <;> rfl
theorem lookupOkK {h:Heap}{t kt e:TypeId}{x i:Operand}{g:Nat}{m:List (κ×ν)}{k:κ}{z:ν} (hu:P.underlying t=some (.map kt e)) (hkt:P.underlying kt=some kd) (hz:zeroOf P e=some (ev z)) (hkk:keyFine P kt kd (ek k)=true) (hpl:plain (ev z)=true)
  (hk:∀ a b,keySame P kt kd (ek a) (ek b)=some (decide (a=b))) (hg:h.get g=some (.map (encM ek ev m))) (hx:ρ x=.map (some g)) (hi:ρ i=ek k) :
  aread P ρ { dst:=d,op:=.lookup t x i true,type:=ty,pos:=pos,after:=af,guard:=gd } h=some (.tuple ⟨[ev ((mget m k).getD z),.bool (mget m k).isSome]⟩):=by
 unfold aread
 simp only[hu,hkt,hz,hx,entriesOf,hg]
 rw[hi,if_pos ⟨hkk,hpl⟩,findA_enc hk,<- mfindI_get k m 0]
 cases mfindI m k 0 <;> rfl
theorem bytes_beq (a b:ByteArray):(a==b)=decide (a=b):=by
 obtain⟨a⟩:=a
 obtain⟨b⟩:=b
 have:((ByteArray.mk a)==(ByteArray.mk b))=(a==b):=by first|rfl|decide
 rw[this,Bool.eq_iff_iff]
 simp
theorem sameStr {kt:TypeId} (a b:ByteArray):keySame P kt .string (.string a) (.string b)=some (decide (a=b)):=by
 show some (a==b)=_
 rw[bytes_beq]
variable {N:Nat} {B:List AObj} {h0 h:Heap} {L:List Slot}
theorem Own.mapSet {t kt e:TypeId}{x i y:Operand}{g:Nat}{m:List (κ×ν)}{k:κ}{v:ν}{f:Slot->List Slot}{K:Value->Heap->Prop} (O:Own B h0 L h) (A:At (some g,.map (encM ek ev m)) L f) (hu:P.underlying t=some (.map kt e)) (hkt:P.underlying kt=some kd) (hkk:keyFine P kt kd (ek k)=true)
  (hk:∀ a b,keySame P kt kd (ek a) (ek b)=some (decide (a=b))) (hx:ρ x=.map (some g)) (hi:ρ i=ek k) (hy:ρ y=ev v) (kk:∀ h1,Own B h0 (f (some g,.map (encM ek ev (mset m k v)))) h1->K undef h1) :
  ∃ (v:Value) (T:Heap->Prop),(∃ h',aeff P ρ { dst:=d,op:=.mapUpdate t x i y,type:=ty,pos:=pos,after:=af,guard:=gd } h=some (v,h')/\T h')/\∀ h1,T h1->K v h1:=by
 have hg:=O.at A.mem
 have u:=Upd.upd (.map (encM ek ev (mset m k v))) (Heap.lt_of_get hg)
 refine⟨undef,fun h1=>h1=h.upd g (.map (encM ek ev (mset m k v))),⟨_,?_,rfl⟩,fun h1 e=>?_⟩
 ·unfold aeff aeffN
  simp only[hu,hkt,hx,hi,hy]
  rw[if_pos hkk]
  unfold mapAt
  simp only[hg]
  rw[findA_enc hk]
  have:=mfindI_set (ek:=ek) (ev:=ev) k v m 0
  cases hq:mfindI m k 0 with
  |none =>
   rw[hq] at this
   simp only at this
   simp only[Option.map_none,this]
  |some q =>
   obtain⟨j,w⟩:=q
   rw[hq] at this
   simp only[Nat.sub_zero] at this
   simp only[Option.map_some,this.2]
 ·subst e
  exact kk _ (O.upd A u)
end
end Go.Abs
