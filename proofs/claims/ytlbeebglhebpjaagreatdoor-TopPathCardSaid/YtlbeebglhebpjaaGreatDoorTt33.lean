/-
  AbsXu: parts of the proof.
-/
import Derived.Test.YtlbeebglhebpjaaGreatDoorTt32
namespace Go.Abs
section
variable {P:Program} {N:Nat} {B:List AObj} {h0 h:Heap} {L:List Slot} {ρ:Operand->Value} {d:Option Tmp} {ty:TypeId} {pos:String} {af:Array Edge} {gd:Option (Nat×Bool)}
theorem kL {k:IntKind}{a y:Nat} (h:a<=y):bnd (.int k (Int.ofNat a)) y=some a:=if_pos ⟨Int.natCast_nonneg a,Int.ofNat_le.2 h⟩
theorem EA {t e:TypeId}{x hi:Operand}{g s n cap m:Nat}{kk:IntKind}{K:Value->Prop}
  (hu:P.underlying t=some (.slice e)) (hs:aF P e=some s) (hx:ρ x=.slice (some ⟨g,0,none⟩) n cap) (hh:ρ hi=.int kk (Int.ofNat m)) (hm:m<=cap) (hk:K (.slice (some ⟨g,0,none⟩) m cap)) :
  ∃ v,av P ρ { dst:=d,op:=.slice t x none (some hi) none,type:=ty,pos:=pos,after:=af,guard:=gd }=some v/\K v:=by
 have e0:0+0*s=0:=by omega
 refine⟨_,?_,hk⟩
 unfold av
 have hb:dJ n cap none (some (.int kk (Int.ofNat m))) none=some (0,m,cap):=by
  unfold dJ
  simp only[kL hm]
 simp only[hu,hx,hs,Option.map_some,Option.map_none,hh,hb,e0,Nat.sub_zero]
structure SrcOk {α:Type} (h:Heap) (s:Nat) (v:Value) (enc:α->Value) (src:List α):Prop where
 len:lenOf v=some src.length
 first:∀ m,m<=src.length->firstOf h s m v=some (flatC ((src.take m).map enc))
theorem lq {α:Type}{enc:α->Value}{s:Nat} (hs:∀ x:α,(cl (enc x)).length=s) (l:List α) (o m:Nat) (h:o+m<=l.length):((flatC (l.map enc)).drop (0+o*s)).take (m*s)=flatC (((l.drop o).take m).map enc):=by
 have e1:flatC (l.map enc)=flatC ((l.take o).map enc)++(flatC (((l.drop o).take m).map enc)++flatC (((l.drop o).drop m).map enc)):=by
  rw[<- aN,<- List.map_append,List.take_append_drop,<- aN,<- List.map_append,List.take_append_drop]
 have e2:(flatC ((l.take o).map enc)).length=0+o*s:=by rw[aM hs,List.length_take,Nat.min_eq_left (by omega)];omega
 have e3:(flatC (((l.drop o).take m).map enc)).length=m*s:=by rw[aM hs,List.length_take,List.length_drop,Nat.min_eq_left (by omega)]
 rw[e1,List.drop_left' e2,List.take_left' e3]
theorem jE {α:Type}{enc:α->Value}{s:Nat} (hs:∀ x:α,(cl (enc x)).length=s) (l:List α) (o:Nat) (new:List α) (h:o+new.length<=l.length):aS (flatC (l.map enc)) (0+o*s) (flatC (new.map enc))=flatC ((l.take o++(new++l.drop (o+new.length))).map enc):=by
 unfold aS
 have e1:flatC (l.map enc)=flatC ((l.take o).map enc)++flatC ((l.drop o).map enc):=by rw[<- aN,<- List.map_append,List.take_append_drop]
 have e2:(flatC ((l.take o).map enc)).length=0+o*s:=by rw[aM hs,List.length_take,Nat.min_eq_left (by omega)];omega
 have e3:flatC (l.map enc)=flatC ((l.take (o+new.length)).map enc)++flatC ((l.drop (o+new.length)).map enc):=by rw[<- aN,<- List.map_append,List.take_append_drop]
 have e4:(flatC ((l.take (o+new.length)).map enc)).length=0+o*s+(flatC (new.map enc)).length:=by
  rw[aM hs,aM hs,List.length_take,Nat.min_eq_left (by omega),Nat.add_mul];omega
 have e5:(flatC (l.map enc)).take (0+o*s)=flatC ((l.take o).map enc):=by rw[e1];exact List.take_left' e2
 have e6:(flatC (l.map enc)).drop (0+o*s+(flatC (new.map enc)).length)=flatC ((l.drop (o+new.length)).map enc):=by
  conv=>lhs;rw[e3]
  exact List.drop_left' e4
 rw[e5,e6,List.map_append,List.map_append,aN,aN,List.append_assoc]
theorem oa {α:Type}{enc:α->Value} (hone:∀ x:α,(cl (enc x)).all Value.oneCell'=true) (l:List α):(flatC (l.map enc)).all Value.oneCell'=true:=by
 rw[List.all_eq_true]
 intro v m
 simp only[flatC,List.mem_flatMap,List.mem_map] at m
 obtain⟨_,⟨a,_,rfl⟩,m⟩:=m
 exact List.all_eq_true.1 (hone a) v m
theorem At.same {s:Slot}{L:List Slot}{f:Slot->List Slot} (A:At s L f):f s=L:=by
 induction A with
 |head L=>rfl
 |tail r _ ih=>exact congrArg (List.cons r) ih
theorem Own.CE {α:Type}{enc:α->Value}{l new:List α}{ts tx te:TypeId}{dx:TypeDesc}{x y:Operand}{s b g n cap:Nat}{z:Value}{f:Slot->List Slot}{K:Value->Heap->Prop} (O:Own B h0 L h) (A:At (some g,.cells (flatC (l.map enc)) false) L f)
  (hts:P.underlying ts=some (.slice te)) (htx:P.underlying tx=some dx) (hni:cO dx=true) (hs:aF P te=some s) (hb:gf P te=some b) (hz:zeroOf P te=some z)
  (hx:ρ x=.slice (some ⟨g,0,none⟩) n cap) (hy:YOk h s (ρ y) enc new) (hsz:∀ x:α,(cl (enc x)).length=s) (hone:∀ x:α,(cl (enc x)).all Value.oneCell'=true)
  (hpos:0<new.length) (hroom:n+new.length<=cap) (hcap:n+new.length<=l.length)
  (k:∀ h1,Own B h0 (f (some g,.cells (flatC ((l.take n++(new++l.drop (n+new.length))).map enc)) false)) h1->K (.slice (some ⟨g,0,none⟩) (n+new.length) cap) h1) :
  ∃ (v:Value) (T:Heap->Prop),(∃ h',ct P ρ { dst:=d,op:=.call { callee:=.builtin .append,args := #[x,y],argTypes := #[ts,tx] },type:=ty,pos:=pos,after:=af,guard:=gd } h=some (v,h')/\T h')/\∀ h1,T h1->K v h1:=by
 have hy0:=hy.len
 have hf0:=hy.first
 unfold ct ec
 simp only[List.map_cons,List.map_nil,hx,hts,htx,hni,if_true,hs,hb,hz,hy0,hf0]
 unfold bU
 obtain⟨hgs,hgg⟩:=O.get g _ A.mem
 rw[if_neg (by omega),if_pos hroom]
 simp only[hgg]
 have hle:0+n*s+(flatC (new.map enc)).length<=(flatC (l.map enc)).length:=by
  rw[aM hsz,aM hsz]
  have:(n+new.length)*s<=l.length*s:=Nat.mul_le_mul_right s hcap
  rw[Nat.add_mul] at this
  omega
 rw[if_pos ⟨.inl hle,oa hone _⟩,jE hsz l n new hcap]
 have u:=Upd.upd (h:=h) (g:=g) (.cells (flatC ((l.take n++(new++l.drop (n+new.length))).map enc)) false) (Heap.ak hgg)
 exact⟨_,fun h1=>Own B h0 (f (some g,.cells (flatC ((l.take n++(new++l.drop (n+new.length))).map enc)) false)) h1,⟨_,rfl,O.upd A u⟩,fun h1 q=>k h1 q⟩
theorem Own.C3 {α:Type}{enc:α->Value}{l:List α}{b s n cap g:Nat}{sp:Option Nat}{ro:Bool}{h2:Heap} (O:Own B h0 L h) (F:Frozen b h h2) (hb:b<=h0.size) (m:(some g,.cells (flatC (l.map enc)) ro)∈L) (hs:∀ x:α,(cl (enc x)).length=s) (hn:n<=l.length):VLe h2 (.slice (some ⟨g,0,sp⟩) n cap) (ah s enc (l.take n)):=by
 obtain⟨q1,q2⟩:=O.get g _ m
 have e:=lq hs l 0 n (by omega)
 rw[show 0+0*s=0 by omega,List.drop_zero,List.drop_zero] at e
 have:n*s<=l.length*s:=Nat.mul_le_mul_right s hn
 refine VLe.fl (F.at (Nat.le_trans hb q1) q2) (by rw[List.length_map,List.length_take,Nat.min_eq_left hn]) (bI hs _) (by rw[aM hs];omega) ?_
 rw[List.drop_zero,e]
 exact LLe.refl _ _
theorem DJ {t e:TypeId}{x y:Operand}{m n b s:Nat}{z:Value} (hu:P.underlying t=some (.slice e)) (hs:aF P e=some s) (hb:gf P e=some b) (hz:zeroOf P e=some z) (hz1:z.cells.size=s) (hpos:0<s) (hp:z.cells.all aA=true)
  (hx:ρ x=.int .i64 (Int.ofNat m)) (hy:ρ y=.int .i64 (Int.ofNat n)) (hmn:m<=n) (hn:b*n<=2 ^ 48) (hn2:n<2 ^ 63) :
  anew P ρ { dst:=d,op:=.makeSlice t x y,type:=ty,pos:=pos,after:=af,guard:=gd }=some (.cells (flatC (List.replicate n z)) false,fun g=>.slice (some ⟨g,0,none⟩) m n):=by
 unfold anew
 simp only[hu,hx,hy,hs,hb,hz]
 have c:0<=Int.ofNat m/\Int.ofNat m<=Int.ofNat n/\(b:Int)*Int.ofNat n<=2 ^ 48/\Int.ofNat n<2 ^ 63/\z.cells.all aA=true:=by
  refine⟨Int.natCast_nonneg m,Int.ofNat_le.2 hmn,?_,?_,hp⟩
  ·have:((b*n:Nat):Int)<=((2 ^ 48:Nat):Int):=Int.ofNat_le.2 hn
   simpa using this
  ·have:((n:Nat):Int)<((2 ^ 63:Nat):Int):=Int.ofNat_lt.2 hn2
   simpa using this
 rw[if_pos c]
 have e1:(Int.ofNat n).toNat=n:=rfl
 have e2:(Int.ofNat m).toNat=m:=rfl
 rw[e1,e2,oE hz1 hpos]
theorem Own.D4 {α:Type}{enc:α->Value}{z:α}{t e:TypeId}{x y:Operand}{m n b s:Nat}{K:Value->Heap->Prop} (O:Own B h0 L h) (hu:P.underlying t=some (.slice e)) (hs:aF P e=some s) (hb:gf P e=some b) (hz:zeroOf P e=some (enc z)) (hz1:(enc z).cells.size=s) (hpos:0<s) (hp:(enc z).cells.all aA=true)
  (hx:ρ x=.int .i64 (Int.ofNat m)) (hy:ρ y=.int .i64 (Int.ofNat n)) (hmn:m<=n) (hn:b*n<=2 ^ 48) (hn2:n<2 ^ 63)
  (k:∀ g h1,Own B h0 ((some g,.cells (flatC ((List.replicate n z).map enc)) false)::L) h1->K (.slice (some ⟨g,0,none⟩) m n) h1) :
  NewG P ρ { dst:=d,op:=.makeSlice t x y,type:=ty,pos:=pos,after:=af,guard:=gd } h K:=by
 refine O.new (DJ hu hs hb hz hz1 hpos hp hx hy hmn hn hn2) fun g h1 O=>k g h1 ?_
 rw[List.map_replicate];exact O
def n64 (n:Nat):Value:=.int .u64 (Int.ofNat n)
theorem xM {a:Nat} (h:a<2 ^ 64):IntKind.u64.wrap (Int.ofNat a)=Int.ofNat a:=IntWalk.u64_in _ (by simp only[Int.ofNat_eq_natCast];omega)
theorem rG {ι:Inj}{e:Env}{a:Act} (r:ERel ι e a) {t:Nat} (ht:t<e.n) {g o:Nat} (hv:e.get t=.pointer (some ⟨g,o,none⟩)):∃ l,ι g=some l:=by
 have:=r.get t ht
 rw[hv] at this
 generalize a.tmps.getD t undef=y at this
 cases this with
 |ptr _ _ l0 q=>exact⟨l0,q⟩
end
end Go.Abs
