/-
  AbsXi: parts of the proof.
-/
import Derived.Test.YtlbeebglhebpjaaGreatDoorTt37
namespace Go.Abs
section
variable {P:Program} {ρ:Operand->Value} {d:Option Tmp} {ty:TypeId} {pos:String} {af:Array Edge} {gd:Option (Nat×Bool)} {B:List AObj} {h0 h:Heap} {L:List Slot}
theorem EF {t e:TypeId}{x lo hi mx:Operand}{g s n cap i j m:Nat}{sp:Option Nat}{k1 k2 k3:IntKind}{K:Value->Prop} (h1:i<=j) (h2:j<=m) (h3:m<=cap) (hk:K (.slice (some ⟨g,0+i*s,none⟩) (j-i) (m-i)))
  (hu:P.underlying t=some (.slice e):=by exact rfl) (hs:aF P e=some s:=by exact rfl) (hx:ρ x=.slice (some ⟨g,0,sp⟩) n cap:=by exact rfl) (hl:ρ lo=.int k1 (Int.ofNat i):=by exact rfl) (hh:ρ hi=.int k2 (Int.ofNat j):=by exact rfl) (hm:ρ mx=.int k3 (Int.ofNat m):=by exact rfl) :
  ∃ v,av P ρ { dst:=d,op:=.slice t x (some lo) (some hi) (some mx),type:=ty,pos:=pos,after:=af,guard:=gd }=some v/\K v:=by
 refine⟨_,?_,hk⟩
 unfold av
 have hb:dJ n cap (some (.int k1 (Int.ofNat i))) (some (.int k2 (Int.ofNat j))) (some (.int k3 (Int.ofNat m)))=some (i,j,m):=by
  unfold dJ
  simp only[kL h3,kL h2,kL h1]
 simp only[hu,hx,hs,Option.map_some,hl,hh,hm,hb]
 cases sp <;> rfl
theorem ED {t e:TypeId}{x lo hi:Operand}{g s n cap i j:Nat}{sp:Option Nat}{k1 k2:IntKind}{K:Value->Prop} (hz:sp=none\/sp=some s) (h1:i<=j) (h2:j<=cap) (hk:K (.slice (some ⟨g,0+i*s,sp⟩) (j-i) (cap-i)))
  (hu:P.underlying t=some (.slice e):=by exact rfl) (hs:aF P e=some s:=by exact rfl) (hx:ρ x=.slice (some ⟨g,0,sp⟩) n cap:=by exact rfl) (hl:ρ lo=.int k1 (Int.ofNat i):=by exact rfl) (hh:ρ hi=.int k2 (Int.ofNat j):=by exact rfl) :
  ∃ v,av P ρ { dst:=d,op:=.slice t x (some lo) (some hi) none,type:=ty,pos:=pos,after:=af,guard:=gd }=some v/\K v:=by
 refine⟨_,?_,hk⟩
 unfold av
 have hb:dJ n cap (some (.int k1 (Int.ofNat i))) (some (.int k2 (Int.ofNat j))) none=some (i,j,cap):=by
  unfold dJ
  simp only[kL h2,kL h1]
 simp only[hu,hx,hs,Option.map_some,Option.map_none,hl,hh,hb]
 rcases hz with rfl|rfl
 ·rfl
 ·simp
theorem EO {t e:TypeId}{x hi:Operand}{g s n cap j:Nat}{sp:Option Nat}{k2:IntKind}{K:Value->Prop} (hz:sp=none\/sp=some s) (h2:j<=cap) (hk:K (.slice (some ⟨g,0,sp⟩) j cap))
  (hu:P.underlying t=some (.slice e):=by exact rfl) (hs:aF P e=some s:=by exact rfl) (hx:ρ x=.slice (some ⟨g,0,sp⟩) n cap:=by exact rfl) (hh:ρ hi=.int k2 (Int.ofNat j):=by exact rfl) :
  ∃ v,av P ρ { dst:=d,op:=.slice t x none (some hi) none,type:=ty,pos:=pos,after:=af,guard:=gd }=some v/\K v:=by
 refine⟨_,?_,hk⟩
 unfold av
 have hb:dJ n cap none (some (.int k2 (Int.ofNat j))) none=some (0,j,cap):=by
  unfold dJ
  simp only[kL h2]
 have e0:0+0*s=0:=by omega
 simp only[hu,hx,hs,Option.map_some,Option.map_none,hh,hb,Nat.sub_zero]
 rcases hz with rfl|rfl
 ·simp
 ·simp
theorem DA {t e:TypeId}{x lo:Operand}{g s n cap i:Nat}{sp:Option Nat}{k1:IntKind}{K:Value->Prop} (hz:sp=none\/sp=some s) (h1:i<=n) (hk:K (.slice (some ⟨g,0+i*s,sp⟩) (n-i) (cap-i)))
  (hu:P.underlying t=some (.slice e):=by exact rfl) (hs:aF P e=some s:=by exact rfl) (hx:ρ x=.slice (some ⟨g,0,sp⟩) n cap:=by exact rfl) (hl:ρ lo=.int k1 (Int.ofNat i):=by exact rfl) :
  ∃ v,av P ρ { dst:=d,op:=.slice t x (some lo) none none,type:=ty,pos:=pos,after:=af,guard:=gd }=some v/\K v:=by
 refine⟨_,?_,hk⟩
 unfold av
 have hb:dJ n cap (some (.int k1 (Int.ofNat i))) none none=some (i,n,cap):=by
  unfold dJ
  simp only[kL h1]
 simp only[hu,hx,hs,Option.map_some,Option.map_none,hl,hb]
 rcases hz with rfl|rfl
 ·rfl
 ·simp
theorem we {α:Type}{enc:α->Value}{s:Nat} (hs:∀ x:α,(cl (enc x)).length=s) (l:List α) (o:Nat) (new:List α) (h:o<=l.length):aS (flatC (l.map enc)) (0+o*s) (flatC (new.map enc))=flatC ((l.take o++(new++l.drop (o+new.length))).map enc):=by
 by_cases c:o+new.length<=l.length
 ·exact jE hs l o new c
 ·unfold aS
  have e1:flatC (l.map enc)=flatC ((l.take o).map enc)++flatC ((l.drop o).map enc):=by rw[<- aN,<- List.map_append,List.take_append_drop]
  have e2:(flatC ((l.take o).map enc)).length=0+o*s:=by rw[aM hs,List.length_take,Nat.min_eq_left (by omega)];omega
  have e5:(flatC (l.map enc)).take (0+o*s)=flatC ((l.take o).map enc):=by rw[e1];exact List.take_left' e2
  have e6:(flatC (l.map enc)).drop (0+o*s+(flatC (new.map enc)).length)=[]:=by
   refine List.drop_eq_nil_of_le ?_
   rw[aM hs,aM hs]
   have:l.length*s<=(o+new.length)*s:=Nat.mul_le_mul_right s (by omega)
   rw[Nat.add_mul] at this
   omega
  have e7:l.drop (o+new.length)=[]:=List.drop_eq_nil_of_le (by omega)
  rw[e5,e6,e7,List.append_nil,List.append_nil,List.map_append,aN]
theorem Own.xV {α:Type}{enc:α->Value}{l new:List α}{ts tx te:TypeId}{dx:TypeDesc}{x y:Operand}{s b g n cap:Nat}{sp:Option Nat}{z:Value}{f:Slot->List Slot}{K:Value->Heap->Prop} (O:Own B h0 L h) (A:At (some g,.cells (flatC (l.map enc)) false) L f)
  (hts:P.underlying ts=some (.slice te)) (htx:P.underlying tx=some dx) (hni:cO dx=true) (hs:aF P te=some s) (hb:gf P te=some b) (hz:zeroOf P te=some z)
  (hx:ρ x=.slice (some ⟨g,0,sp⟩) n cap) (hy:YOk h s (ρ y) enc new) (hsz:∀ x:α,(cl (enc x)).length=s) (hone:∀ x:α,(cl (enc x)).all Value.oneCell'=true)
  (hroom:n+new.length<=cap) (hn:n<=l.length) (hcap:n+new.length<=l.length\/sp=some s)
  (k:∀ h1,Own B h0 (f (some g,.cells (flatC ((l.take n++(new++l.drop (n+new.length))).map enc)) false)) h1->K (.slice (some ⟨g,0,sp⟩) (n+new.length) cap) h1) :
  ∃ (v:Value) (T:Heap->Prop),(∃ h',ct P ρ { dst:=d,op:=.call { callee:=.builtin .append,args := #[x,y],argTypes := #[ts,tx] },type:=ty,pos:=pos,after:=af,guard:=gd } h=some (v,h')/\T h')/\∀ h1,T h1->K v h1:=by
 have hy0:=hy.len
 have hf0:=hy.first
 unfold ct ec
 simp only[List.map_cons,List.map_nil,hx,hts,htx,hni,if_true,hs,hb,hz,hy0,hf0]
 unfold bU
 obtain⟨hgs,hgg⟩:=O.get g _ A.mem
 by_cases hm0:new.length=0
 ·have hnew:new=[]:=List.eq_nil_of_length_eq_zero hm0
  subst hnew
  rw[if_pos hm0,if_pos ⟨by simp[flatC],by omega⟩]
  refine⟨_,fun h1=>h1=h,⟨h,rfl,rfl⟩,fun h1 e=>?_⟩
  subst e
  refine k h1 ?_
  have e:l.take n++([]++l.drop (n+([]:List α).length))=l:=by simp
  rw[e,A.same];exact O
 rw[if_neg hm0,if_pos hroom]
 simp only[hgg]
 have hle:0+n*s+(flatC (new.map enc)).length<=(flatC (l.map enc)).length\/(sp=some s/\0+n*s<=(flatC (l.map enc)).length/\(flatC (new.map enc)).length=new.length*s):=by
  rw[aM hsz,aM hsz]
  rcases hcap with c|c
  ·left
   have:(n+new.length)*s<=l.length*s:=Nat.mul_le_mul_right s c
   rw[Nat.add_mul] at this
   omega
  ·exact .inr ⟨c,by have:=Nat.mul_le_mul_right s hn;omega,rfl⟩
 rw[if_pos ⟨hle,oa hone _⟩,we hsz l n new hn]
 have u:=Upd.upd (h:=h) (g:=g) (.cells (flatC ((l.take n++(new++l.drop (n+new.length))).map enc)) false) (Heap.ak hgg)
 exact⟨_,fun h1=>Own B h0 (f (some g,.cells (flatC ((l.take n++(new++l.drop (n+new.length))).map enc)) false)) h1,⟨_,rfl,O.upd A u⟩,fun h1 q=>k h1 q⟩
theorem Own.yo {α:Type}{enc:α->Value}{l new:List α}{ts tx te:TypeId}{dx:TypeDesc}{x y:Operand}{s b g n:Nat}{ro:Bool}{z:Value}{K:Value->Heap->Prop} (O:Own B h0 L h) (m:(some g,.cells (flatC (l.map enc)) ro)∈L)
  (hts:P.underlying ts=some (.slice te)) (htx:P.underlying tx=some dx) (hni:cO dx=true) (hs:aF P te=some s) (hb:gf P te=some b) (hz:zeroOf P te=some z) (hzs:z.cells.size=s)
  (hx:ρ x=.slice (some ⟨g,0,none⟩) n n) (hy:YOk h s (ρ y) enc new) (hsz:∀ x:α,(cl (enc x)).length=s) (hone:∀ x:α,(cl (enc x)).all Value.oneCell'=true)
  (hpos:0<new.length) (hn:n<=l.length) (hb0:0<b) (hlim:(n+new.length)*b<=2 ^ 47)
  (k:∀ g' h1,Own B h0 ((some g',.cells (flatC ((l.take n++new).map enc)) false)::L) h1->K (.slice (some ⟨g',0,some s⟩) (n+new.length) (n+new.length)) h1) :
  ∃ (v:Value) (T:Heap->Prop),(∃ h',ct P ρ { dst:=d,op:=.call { callee:=.builtin .append,args := #[x,y],argTypes := #[ts,tx] },type:=ty,pos:=pos,after:=af,guard:=gd } h=some (v,h')/\T h')/\∀ h1,T h1->K v h1:=by
 have hy0:=hy.len
 have hf0:=hy.first
 have hgg:=O.at m
 have e1:((flatC (l.map enc)).drop 0).take (n*s)=flatC ((l.take n).map enc):=by
  have:=lq hsz l 0 n (by omega)
  rw[Nat.zero_mul,Nat.add_zero,List.drop_zero] at this
  exact this
 unfold ct ec
 simp only[List.map_cons,List.map_nil,hx,hts,htx,hni,if_true,hs,hb,hz,hy0,hf0]
 unfold bU
 rw[if_neg (by omega),if_neg (by omega:¬ n+new.length<=n),if_pos ⟨hb0,hlim,hzs,by rw[aM hsz],oa hone _⟩]
 simp only[hgg]
 rw[if_pos (by rw[aM hsz];have:=Nat.mul_le_mul_right s hn;omega)]
 refine⟨_,fun h1=>h1=h.push (.cells (flatC ((l.take n++new).map enc)) false),⟨_,rfl,?_⟩,fun h1 e=>?_⟩
 ·rw[e1,<- aN,<- List.map_append]
 ·subst e
  exact k h.size _ (O.push (New.push h _))
theorem YOk.from {α:Type}{h:Heap}{s g n c i:Nat}{sp:Option Nat}{ro:Bool}{v:Value}{enc:α->Value}{l:List α} (hg:h.get g=some (.cells (flatC (l.map enc)) ro)) (hv:v=.slice (some ⟨g,0+i*s,sp⟩) n c) (hs:∀ x:α,(cl (enc x)).length=s) (hn:n=l.length-i) (hi:i<=l.length):YOk h s v enc (l.drop i):=by
 subst hv hn
 have e1:=lq hs l i (l.length-i) (by omega)
 refine⟨by simp[lenOf],?_⟩
 unfold firstOf
 simp only[hg]
 rw[List.length_drop,if_pos,e1]
 ·rw[<- List.length_drop,List.take_length]
 ·rw[aM hs]
  have:(i+(l.length-i))*s<=l.length*s:=Nat.mul_le_mul_right s (by omega)
  rw[Nat.add_mul] at this
  omega
end
end Go.Abs
