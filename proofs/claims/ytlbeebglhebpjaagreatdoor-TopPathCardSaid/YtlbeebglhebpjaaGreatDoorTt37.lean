/-
  AbsXa, AbsXc: parts of the proof.
-/
import Derived.Test.YtlbeebglhebpjaaGreatDoorTt36
namespace Go.Abs
section
variable {P:Program} {ρ:Operand->Value} {d:Option Tmp} {ty:TypeId} {pos:String} {af:Array Edge} {gd:Option (Nat×Bool)}
end
section
variable {B:List AObj} {h0 h:Heap} {S T:List Slot} {p:Slot} {j:Nat}
inductive Rw where
 |own (a:Option Nat) (r:List Nat)
 |cut (a:Option Nat) (r:List Nat)
 |fz (r:List Nat)
def Rw.val:Rw->List Nat
 |.own _ r=>r
 |.cut _ r=>r
 |.fz r=>r
def EM:Rw->Slot
 |.own a r=>(a,.cells (flatC (r.map i64)) false)
 |.cut a r=>(a,.cells (flatC (r.map i64)) false)
 |.fz _=>(none,.dead)
end
end Go.Abs

namespace Go.Abs
section
variable {P:Program} {ρ:Operand->Value} {d:Option Tmp} {ty:TypeId} {pos:String} {af:Array Edge} {gd:Option (Nat×Bool)} {B:List AObj} {h0 h:Heap} {L:List Slot}
theorem Own.DS {α:Type}{enc:α->Value}{l:List α}{z:α}{td te:TypeId}{x:Operand}{s g o n cap off:Nat}{sp:Option Nat}{f:Slot->List Slot}{K:Value->Heap->Prop} (O:Own B h0 L h) (A:At (some g,.cells (flatC (l.map enc)) false) L f)
  (hts:P.underlying td=some (.slice te)) (hz:zeroOf P te=some (enc z)) (hz1:(enc z).cells.size=s) (hp:(enc z).cells.all aA=true) (hoff:off=0+o*s) (hx:ρ x=.slice (some ⟨g,off,sp⟩) n cap) (hsz:∀ x:α,(cl (enc x)).length=s) (hpos:0<s) (hone:∀ x:α,(cl (enc x)).all Value.oneCell'=true)
  (hlim:o+n<=l.length) (k:∀ h1,Own B h0 (f (some g,.cells (flatC ((l.take o++(List.replicate n z++l.drop (o+n))).map enc)) false)) h1->K (.tuple #[]) h1) :
  ∃ (v:Value) (T:Heap->Prop),(∃ h',ct P ρ { dst:=d,op:=.call { callee:=.builtin .clear,args := #[x],argTypes := #[td] },type:=ty,pos:=pos,after:=af,guard:=gd } h=some (v,h')/\T h')/\∀ h1,T h1->K v h1:=by
 subst hoff
 unfold ct ec
 simp only[List.map_cons,List.map_nil,hx,hts,hz,hp,if_true]
 rw[hz1,oE hz1 hpos,<- List.map_replicate]
 unfold iQ
 by_cases hn:n=0
 ·subst hn
  rw[if_pos rfl]
  refine⟨_,fun h1=>h1=h,⟨h,rfl,rfl⟩,fun h1 q=>?_⟩
  subst q
  refine k h1 ?_
  have e:l.take o++(List.replicate 0 z++l.drop (o+0))=l:=by simp
  rw[e,A.same];exact O
 ·rw[if_neg hn]
  obtain⟨hgs,hgg⟩:=O.get g _ A.mem
  simp only[hgg]
  have hle:0+o*s+(flatC ((List.replicate n z).map enc)).length<=(flatC (l.map enc)).length:=by
   rw[aM hsz,aM hsz,List.length_replicate]
   have:(o+n)*s<=l.length*s:=Nat.mul_le_mul_right s hlim
   rw[Nat.add_mul] at this
   omega
  rw[if_pos ⟨hle,oa hone _⟩,jE hsz l o (List.replicate n z) (by rw[List.length_replicate];exact hlim),List.length_replicate]
  have u:=Upd.upd (h:=h) (g:=g) (.cells (flatC ((l.take o++(List.replicate n z++l.drop (o+n))).map enc)) false) (Heap.ak hgg)
  exact⟨_,fun h1=>Own B h0 (f (some g,.cells (flatC ((l.take o++(List.replicate n z++l.drop (o+n))).map enc)) false)) h1,⟨_,rfl,O.upd A u⟩,fun h1 q=>k h1 q⟩
def CY (s:Nat) (a:Option Nat) (n m:Nat):Value:=.slice (a.map fun g=>⟨g,0,some s⟩) n m
def Dq (a:Option Nat) (n:Nat):Value:=.slice (a.map fun g=>⟨g,0,none⟩) n n
theorem D3 {t e:TypeId}{x hi mx:Operand}{s n m:Nat}{a:Option Nat}{kk kk':IntKind}{K:Value->Prop} (hn:n<=m) (hk:K (Dq a n))
  (hu:P.underlying t=some (.slice e):=by exact rfl) (hs:aF P e=some s:=by exact rfl) (hx:ρ x=CY s a n m:=by exact rfl) (hhi:ρ hi=.int kk (Int.ofNat n):=by exact rfl) (hmx:ρ mx=.int kk' (Int.ofNat n):=by exact rfl) :
  ∃ v,av P ρ { dst:=d,op:=.slice t x none (some hi) (some mx),type:=ty,pos:=pos,after:=af,guard:=gd }=some v/\K v:=by
 refine⟨_,?_,hk⟩
 have h1:∀ q,bnd (.int q (Int.ofNat n)) n=some n:=fun q=>if_pos ⟨Int.natCast_nonneg _,Int.ofNat_le.2 (Nat.le_refl _)⟩
 have h2:∀ q,bnd (.int q (Int.ofNat n)) m=some n:=fun q=>if_pos ⟨Int.natCast_nonneg _,Int.ofNat_le.2 hn⟩
 unfold av
 simp only[hu,hx,CY,hs,Option.map_some,Option.map_none,hhi,hmx]
 unfold dJ
 simp only[h1,h2]
 cases a with
 |none=>simp[Dq]
 |some g=>simp[Dq]
end
end Go.Abs
