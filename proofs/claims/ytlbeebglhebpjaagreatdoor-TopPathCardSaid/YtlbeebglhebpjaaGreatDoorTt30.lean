/-
  AbsXr: parts of the proof.
-/
import Derived.Test.YtlbeebglhebpjaaGreatDoorTt29
namespace Go.Abs
variable {P:Program} {ρ:Operand->Value} {d:Option Tmp} {ty:TypeId} {pos:String} {af:Array Edge} {gd:Option (Nat×Bool)}
theorem C8 {t e:TypeId}{x i:Operand}{j q n s:Nat}{kk:IntKind}{cs:List Value}{v:Value}{K:Value->Prop} (hu:P.underlying t=some (.array n e)) (hs:aF P e=some s) (hx:ρ x=FP (.agg ⟨cs⟩)) (hi:ρ i=.int kk (Int.ofNat j)) (hq:j=q) (hn:Nat.ble (q+1) n=true) (hv:qO P e ⟨cs⟩ (q*s)=some v) (hk:K v) :
  ∃ v,av P ρ { dst:=d,op:=.indexAddr t x i,type:=ty,pos:=pos,after:=af,guard:=gd }=some v/\K v:=by
 subst hq
 refine⟨_,?_,hk⟩
 unfold av
 simp only[hu,hx,FP,hi,hs,hn,hv]
theorem oM {α:Type}{enc:α->Value}{s j:Nat}{l:List α}{h:Heap} (hs:∀ x:α,(cl (enc x)).length=s) {y:α} (hy:l[j]?=some y) {x:α}{k:Nat}{v v':Value} (hk:k+[v'].length<=s) (hx:cl (enc x)=aS (cl (enc y)) k [v']) (hv:VLe h v v') :
  LLe h (aS (flatC (l.map enc)) (0+j*s+k) [v]) (flatC ((l.set j x).map enc)):=by
 rw[<- rz hs hy hk hx]
 exact LLe.aS hv
theorem sS {α:Type}{enc:α->Value}{s j:Nat}{a:Option Nat}{l:List α}{x:α}:aj s a (l.map enc)=aj s a ((l.set j x).map enc):=by
 unfold aj
 simp only[List.length_map,List.length_set]
theorem gG {α:Type}{g:α}{Q:Prop} (e:(some g:Option α)=none):Q:=nomatch e
def gY {κ ν:Type} [DecidableEq κ]:List (κ×ν)->κ->Option ν
 |[],_=>none
 |p::r,k=>if k=p.1 then some p.2 else gY r k
def kM {κ ν:Type} [DecidableEq κ]:List (κ×ν)->κ->ν->List (κ×ν)
 |[],k,v=>[(k,v)]
 |p::r,k,v=>if k=p.1 then (k,v)::r else p::kM r k v
def iS {κ ν:Type} [DecidableEq κ]:List (κ×ν)->κ->Nat->Option (Nat×ν)
 |[],_,_=>none
 |p::r,k,i=>if k=p.1 then some (i,p.2) else iS r k (i+1)
section
variable {κ ν:Type} [DecidableEq κ] {ek:κ->Value} {ev:ν->Value} {kd:TypeDesc}
def hH (ek:κ->Value) (ev:ν->Value) (m:List (κ×ν)):List (Value×Value):=m.map fun p=>(ek p.1,ev p.2)
theorem ot {kt:TypeId} (hk:∀ a b,gT P kt kd (ek a) (ek b)=some (decide (a=b))) (k:κ):∀ (m:List (κ×ν)) (i:Nat),kv P kt kd (ek k) (hH ek ev m) i=some ((iS m k i).map fun q=>(q.1,ev q.2))
 |[],i=>rfl
 |p::r,i=>by
  show (match gT P kt kd (ek k) (ek p.1) with|some true=>_|some false=>_|none=>_)=_
  rw[hk]
  unfold iS
  by_cases c:k=p.1
  ·simp[c]
  ·simp only[c,decide_false,if_false]
   exact ot hk k r (i+1)
theorem qH (k:κ):∀ (m:List (κ×ν)) (i:Nat),(iS m k i).map (·.2)=gY m k
 |[],_=>rfl
 |p::r,i=>by
  unfold iS gY
  by_cases c:k=p.1
  ·simp[c]
  ·simp only[c,if_false]
   exact qH k r (i+1)
theorem qz (k:κ) (v:ν):∀ (m:List (κ×ν)) (i:Nat),match iS m k i with
  |some (j,_)=>i<=j/\(hH ek ev m).set (j-i) (ek k,ev v)=hH ek ev (kM m k v)
  |none=>hH ek ev m++[(ek k,ev v)]=hH ek ev (kM m k v)
 |[],i=>rfl
 |p::r,i=>by
  unfold iS kM
  by_cases c:k=p.1
  ·simp only[c,if_true]
   exact⟨Nat.le_refl _,by rw[Nat.sub_self];rfl⟩
  ·simp only[c,if_false]
   have:=qz k v r (i+1)
   cases hq:iS r k (i+1) with
   |none =>
    rw[hq] at this
    simp only at this ⊢
    exact congrArg (List.cons _) this
   |some q =>
    obtain⟨j,w⟩:=q
    rw[hq] at this
    simp only at this ⊢
    obtain⟨h1,h2⟩:=this
    refine⟨by omega,?_⟩
    have e:j-i=(j-(i+1))+1:=by omega
    show (_::hH ek ev r).set (j-i) _=_::hH ek ev (kM r k v)
    rw[e,List.set_cons_succ,h2]
theorem tE {h:Heap}{t kt e:TypeId}{x i:Operand}{g:Nat}{m:List (κ×ν)}{k:κ}{z:ν} (hu:P.underlying t=some (.map kt e)) (hkt:P.underlying kt=some kd) (hz:zeroOf P e=some (ev z)) (hkk:lp P kt kd (ek k)=true) (hpl:plain (ev z)=true)
  (hk:∀ a b,gT P kt kd (ek a) (ek b)=some (decide (a=b))) (hg:h.get g=some (.map (hH ek ev m))) (hx:ρ x=.map (some g)) (hi:ρ i=ek k) :
  aJ P ρ { dst:=d,op:=.lookup t x i false,type:=ty,pos:=pos,after:=af,guard:=gd } h=some (ev ((gY m k).getD z)):=by
 unfold aJ
 simp only[hu,hkt,hz,hx,entriesOf,hg]
 rw[hi,if_pos ⟨hkk,hpl⟩,ot hk,<- qH k m 0]
 cases iS m k 0 <;> rfl
theorem bytes_beq (a b:ByteArray):(a==b)=decide (a=b):=by
 obtain⟨a⟩:=a
 obtain⟨b⟩:=b
 have:((ByteArray.mk a)==(ByteArray.mk b))=(a==b):=by first|rfl|decide
 rw[this,Bool.eq_iff_iff]
 simp
theorem xG {kt:TypeId} (a b:ByteArray):gT P kt .string (.string a) (.string b)=some (decide (a=b)):=by
 show some (a==b)=_
 rw[bytes_beq]
theorem uz {kt:TypeId} (a b:Nat):gT P kt (.int .i64) (i64 a) (i64 b)=some (decide (a=b)):=by
 show some (Int.ofNat a==Int.ofNat b)=_
 congr 1
 exact iB a b
variable {N:Nat} {B:List AObj} {h0 h:Heap} {L:List Slot}
theorem Own.AW {t kt e:TypeId}{x i y:Operand}{g:Nat}{m:List (κ×ν)}{k:κ}{v:ν}{f:Slot->List Slot}{K:Value->Heap->Prop} (O:Own B h0 L h) (A:At (some g,.map (hH ek ev m)) L f) (hu:P.underlying t=some (.map kt e)) (hkt:P.underlying kt=some kd) (hkk:lp P kt kd (ek k)=true)
  (hk:∀ a b,gT P kt kd (ek a) (ek b)=some (decide (a=b))) (hx:ρ x=.map (some g)) (hi:ρ i=ek k) (hy:ρ y=ev v) (kk:∀ h1,Own B h0 (f (some g,.map (hH ek ev (kM m k v)))) h1->K undef h1) :
  ∃ (v:Value) (T:Heap->Prop),(∃ h',ct P ρ { dst:=d,op:=.mapUpdate t x i y,type:=ty,pos:=pos,after:=af,guard:=gd } h=some (v,h')/\T h')/\∀ h1,T h1->K v h1:=by
 have hg:=O.at A.mem
 have u:=Upd.upd (.map (hH ek ev (kM m k v))) (Heap.ak hg)
 refine⟨undef,fun h1=>h1=h.upd g (.map (hH ek ev (kM m k v))),⟨_,?_,rfl⟩,fun h1 e=>?_⟩
 ·unfold ct ec
  simp only[hu,hkt,hx,hi,hy]
  rw[if_pos hkk]
  unfold uO
  simp only[hg]
  rw[ot hk]
  have:=qz (ek:=ek) (ev:=ev) k v m 0
  cases hq:iS m k 0 with
  |none =>
   rw[hq] at this
   simp only at this
   simp only[Option.map_none,this]
  |some q =>
   obtain⟨j,w⟩:=q
   rw[hq] at this
   simp only[Nat.sub_zero] at this
   simp only[Option.map_some,this.2]
 ·subst e
  exact kk _ (O.upd A u)
end
end Go.Abs
