/- Parts of the proof. -/
import Derived.Test.YtglgdkineobbeaaGreatDoorTn39
open Int renaming ofNat->LQ
open List renaming replicate->LY
namespace Go.Abs
section
variable {P:Program} {ρ:Operand->Value} {d:Option Tmp} {ty:TypeId} {pos:String} {af:Array Edge} {gd:Option (Nat×Bool)}
end
section
variable {B:List AObj} {h0 h:Heap} {S T:List Slot} {p:Slot} {j:Nat}
inductive Rw where
 |own (a:Option Nat) (r:List Nat)
 |cut (a:Option Nat) (r:List Nat)
 |fz (r:List Nat)
def Rw.val:Rw->List Nat
 |.own _ r=>r
 |.cut _ r=>r
 |.fz r=>r
def LF:Rw->Slot
 |.own a r=>(a,.cells (ah (r.map i64)) false)
 |.cut a r=>(a,.cells (ah (r.map i64)) false)
 |.fz _=>(none,.dead)
end
end Go.Abs

namespace Go.Abs
section
variable {P:Program} {ρ:Operand->Value} {d:Option Tmp} {ty:TypeId} {pos:String} {af:Array Edge} {gd:Option (Nat×Bool)} {B:List AObj} {h0 h:Heap} {L:List Slot}
theorem Own.Km{α:Type}{enc:α->Value}{l:List α}{z:α}{td te:TypeId}{x:Operand}{s g o n cap off:Nat}{sp:Option Nat}{f:Slot->List Slot}{K:Value->Heap->Prop}(O:Own B h0 L h)(A:At (some g,.cells (ah (l.map enc)) false) L f)
  (hts:P.underlying td=some (.slice te)) (hz:zeroOf P te=some (enc z)) (hz1:(enc z).cells.size=s) (hp:(enc z).cells.all aR=true) (hoff:off=0+o*s) (hx:ρ x=.slice (some ⟨g,off,sp⟩) n cap) (hsz:∀x:α,(cl (enc x)).length=s) (hpos:0<s) (hone:∀x:α,(cl (enc x)).all Value.oneCell'=true)
  (hlim:o+n<=l.length) (k:∀h1,Own B h0 (f (some g,.cells (ah ((l.take o++(LY n z++l.drop (o+n))).map enc)) false)) h1->K (.tuple #[]) h1) :
  ∃(v:Value) (T:Heap->Prop),(∃h',cZ P ρ { dst:=d,op:=.call { callee:=.builtin .clear,args := #[x],argTypes := #[td] },type:=ty,pos:=pos,after:=af,guard:=gd } h=some (v,h')/\T h')/\∀h1,T h1->K v h1:=by
 subst hoff;unfold cZ fa;simp only[MM,ND,hx,hts,hz,hp,if_true];rw[hz1,tH hz1 hpos,<- OK];unfold lX;by_cases hn:n=0
 .subst hn;rw[if_pos rfl];refine⟨_,λh1=>h1=h,⟨h,rfl,rfl⟩,λh1 q=>?_⟩;subst q;refine k h1 ?_
  have e:l.take o++(LY 0 z++l.drop (o+0))=l:=by simp
  rw[e,A.same];exact O
 .rw[if_neg hn];obtain⟨hgs,hgg⟩:=O.get g _ A.mem;simp only[hgg]
  have hle:0+o*s+(ah ((LY n z).map enc)).length<=(ah (l.map enc)).length:=by
   rw[bn hsz,bn hsz,Mw];have:(o+n)*s<=l.length*s:=MY s hlim;rw[Nk] at this;omega
  rw[if_pos ⟨hle,wO hone _⟩,lu hsz l o (LY n z) (by rw[Mw];exact hlim),Mw];have u:=Upd.upd (h:=h) (g:=g) (.cells (ah ((l.take o++(LY n z++l.drop (o+n))).map enc)) false) (Heap.ai hgg);exact⟨_,λh1=>Own B h0 (f (some g,.cells (ah ((l.take o++(LY n z++l.drop (o+n))).map enc)) false)) h1,⟨_,rfl,O.upd A u⟩,λh1 q=>k h1 q⟩
theorem HF{α:Type}{enc:α->Value}{t e:TypeId}{x lo hi:Operand}{s i j:Nat}{l:List α}{kk kk':IntKind}{K:Value->Prop}(h1:i<=j)(h2:j<=l.length)(hk:K (FL s (((l.take j).drop i).map enc)))
  (hu:P.underlying t=some (.slice e):=by exact rfl) (hs:bb P e=some s:=by exact rfl) (hx:ρ x=FL s (l.map enc):=by exact rfl) (hlo:ρ lo=.int kk (LQ i):=by exact rfl) (hhi:ρ hi=.int kk' (LQ j):=by exact rfl) :
  ∃v,aC P ρ { dst:=d,op:=.slice t x (some lo) (some hi) none,type:=ty,pos:=pos,after:=af,guard:=gd }=some v/\K v:=by
 refine⟨_,?_,hk⟩;have hb:Nat.beq s s=true:=Ra s;unfold aC;simp only[hu,hx,FL,hs,MI,Oi,hlo,hhi,LZ];unfold il;simp only[Dt kk' h2,Dt kk h1,hb];rw[List.map_drop,List.map_take,List.drop_take]
def FJ(s:Nat)(a:Option Nat)(n m:Nat):Value:=.slice (a.map λg=>⟨g,0,some s⟩) n m
theorem HS{t e:TypeId}{x lo:Operand}{g off s n cap:Nat}(m:Nat){kk:IntKind}{K:Value->Prop}(hm:m<=n)(hk:K (.slice (some ⟨g,off+m*s,some s⟩) (n-m) (cap-m)))
  (hu:P.underlying t=some (.slice e):=by exact rfl) (hs:bb P e=some s:=by exact rfl) (hx:ρ x=.slice (some ⟨g,off,some s⟩) n cap:=by exact rfl) (hh:ρ lo=.int kk (LQ m):=by exact rfl) :
  ∃v,aC P ρ { dst:=d,op:=.slice t x (some lo) none none,type:=ty,pos:=pos,after:=af,guard:=gd }=some v/\K v:=by
 refine⟨_,?_,hk⟩;unfold aC
 have hb:il n cap (some (.int kk (LQ m))) none none=some (m,n,cap):=by
  unfold il;simp only[yZ hm]
 simp only[hu,hx,hs,MI,Oi,hh,hb,if_true]
theorem Kx{t e:TypeId}{x hi:Operand}{g s n cap:Nat}(m:Nat){kk:IntKind}{K:Value->Prop}(hm:m<=cap)(hk:K (FJ s (some g) m cap))
  (hu:P.underlying t=some (.slice e):=by exact rfl) (hs:bb P e=some s:=by exact rfl) (hx:ρ x=.slice (some ⟨g,0,some s⟩) n cap:=by exact rfl) (hh:ρ hi=.int kk (LQ m):=by exact rfl) :
  ∃v,aC P ρ { dst:=d,op:=.slice t x none (some hi) none,type:=ty,pos:=pos,after:=af,guard:=gd }=some v/\K v:=by
 have e0:0+0*s=0:=by omega
 refine⟨_,?_,hk⟩;unfold aC
 have hb:il n cap none (some (.int kk (LQ m))) none=some (0,m,cap):=by
  unfold il;simp only[yZ hm]
 simp only[hu,hx,hs,MI,Oi,hh,hb,e0,Ou,if_true];rfl
end
theorem uz{β:Type}{l:List β}{j:Nat}{x:β}(h:l[j]?=some x):l.set j x=l:=by
 obtain⟨h1,rfl⟩:=LX.1 h;exact P9 h1
end Go.Abs
