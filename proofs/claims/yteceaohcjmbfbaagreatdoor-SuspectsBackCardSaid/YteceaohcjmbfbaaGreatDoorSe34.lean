/-
  AbsXu: parts of the proof.
-/
import Derived.Test.YteceaohcjmbfbaaGreatDoorSe33
namespace Go.Abs
section
variable {P:Program} {N:Nat} {B:List AObj} {h0 h:Heap} {L:List Slot} {ρ:Operand->Value} {d:Option Tmp} {ty:TypeId} {pos:String} {af:Array Edge} {gd:Option (Nat×Bool)}
theorem zZ {k:IntKind}{a y:Nat} (h:a<=y):bnd (.int k (Int.ofNat a)) y=some a:=if_pos ⟨Int.natCast_nonneg a,Int.ofNat_le.2 h⟩
theorem Bi {t e:TypeId}{x hi:Operand}{g s n cap m:Nat}{kk:IntKind}{K:Value->Prop}
  (hu:P.underlying t=some (.slice e)) (hs:aL P e=some s) (hx:ρ x=.slice (some ⟨g,0,none⟩) n cap) (hh:ρ hi=.int kk (Int.ofNat m)) (hm:m<=cap) (hk:K (.slice (some ⟨g,0,none⟩) m cap)) :
  ∃ v,aw P ρ { dst:=d,op:=.slice t x none (some hi) none,type:=ty,pos:=pos,after:=af,guard:=gd }=some v/\K v:=by
 have e0:0+0*s=0:=by omega
 refine⟨_,?_,hk⟩
 unfold aw
 have hb:fX n cap none (some (.int kk (Int.ofNat m))) none=some (0,m,cap):=by
  unfold fX
  simp only[zZ hm]
 simp only[hu,hx,hs,Option.map_some,Option.map_none,hh,hb,e0,Nat.sub_zero]
theorem AE {t e:TypeId}{x lo:Operand}{g s n cap m:Nat}{kk:IntKind}{K:Value->Prop}
  (hu:P.underlying t=some (.slice e)) (hs:aL P e=some s) (hx:ρ x=.slice (some ⟨g,0,none⟩) n cap) (hh:ρ lo=.int kk (Int.ofNat m)) (hm:m<=n) (hk:K (.slice (some ⟨g,0+m*s,none⟩) (n-m) (cap-m))) :
  ∃ v,aw P ρ { dst:=d,op:=.slice t x (some lo) none none,type:=ty,pos:=pos,after:=af,guard:=gd }=some v/\K v:=by
 refine⟨_,?_,hk⟩
 unfold aw
 have hb:fX n cap (some (.int kk (Int.ofNat m))) none none=some (m,n,cap):=by
  unfold fX
  simp only[zZ hm]
 simp only[hu,hx,hs,Option.map_some,Option.map_none,hh,hb]
structure SrcOk {α:Type} (h:Heap) (s:Nat) (v:Value) (enc:α->Value) (src:List α):Prop where
 len:lenOf v=some src.length
 first:∀ m,m<=src.length->firstOf h s m v=some (flatC ((src.take m).map enc))
theorem SrcOk.fl {α:Type}{h:Heap}{s:Nat}{v:Value}{enc:α->Value}{src:List α} (hy:v=FL s (src.map enc)):SrcOk h s v enc src:=by
 subst hy
 refine⟨?_,fun m hm=>?_⟩
 ·show some (src.map enc).length=_
  rw[List.length_map]
 ·unfold firstOf FL
  cases hq:src with
  |nil=>simp[flatC]
  |cons a r =>
   have:Nat.beq s s=true:=Nat.beq_refl s
   simp only[List.map_cons,this]
   rw[<- List.map_cons,<- List.map_take]
theorem sV {α:Type}{enc:α->Value}{s:Nat} (hs:∀ x:α,(cl (enc x)).length=s) (l:List α) (o m:Nat) (h:o+m<=l.length):((flatC (l.map enc)).drop (0+o*s)).take (m*s)=flatC (((l.drop o).take m).map enc):=by
 have e1:flatC (l.map enc)=flatC ((l.take o).map enc)++(flatC (((l.drop o).take m).map enc)++flatC (((l.drop o).drop m).map enc)):=by
  rw[<- bK,<- List.map_append,List.take_append_drop,<- bK,<- List.map_append,List.take_append_drop]
 have e2:(flatC ((l.take o).map enc)).length=0+o*s:=by rw[aZ hs,List.length_take,Nat.min_eq_left (by omega)];omega
 have e3:(flatC (((l.drop o).take m).map enc)).length=m*s:=by rw[aZ hs,List.length_take,List.length_drop,Nat.min_eq_left (by omega)]
 rw[e1,List.drop_left' e2,List.take_left' e3]
theorem SrcOk.win {α:Type}{h:Heap}{s g n cap o:Nat}{sp:Option Nat}{ro:Bool}{v:Value}{enc:α->Value}{l:List α} (hg:h.get g=some (.cells (flatC (l.map enc)) ro)) (hv:v=.slice (some ⟨g,0+o*s,sp⟩) n cap) (hs:∀ x:α,(cl (enc x)).length=s) (hn:o+n<=l.length):SrcOk h s v enc ((l.drop o).take n):=by
 subst hv
 have hl:((l.drop o).take n).length=n:=by rw[List.length_take,List.length_drop];omega
 refine⟨by rw[hl];rfl,fun m hm=>?_⟩
 rw[hl] at hm
 unfold firstOf
 simp only[hg]
 have:(o+m)*s<=l.length*s:=Nat.mul_le_mul_right s (by omega)
 rw[Nat.add_mul] at this
 rw[if_pos (by rw[aZ hs];omega),sV hs l o m (by omega),List.take_take,Nat.min_eq_left hm]
theorem SrcOk.CM {α:Type}{h:Heap}{s g n cap:Nat}{sp:Option Nat}{ro:Bool}{v:Value}{enc:α->Value}{l:List α} (hg:h.get g=some (.cells (flatC (l.map enc)) ro)) (hv:v=.slice (some ⟨g,0,sp⟩) n cap) (hs:∀ x:α,(cl (enc x)).length=s) (hn:n<=l.length):SrcOk h s v enc (l.take n):=by
 have:=SrcOk.win (o:=0) (v:=v) hg (by rw[hv];congr 3;omega) hs (by omega)
 rwa [List.drop_zero] at this
def kf {α:Type} (l:List α) (o n:Nat) (src:List α):List α:=l.take o++(src.take (min n src.length)++l.drop (o+min n src.length))
theorem jL {α:Type}{enc:α->Value}{s:Nat} (hs:∀ x:α,(cl (enc x)).length=s) (l:List α) (o:Nat) (new:List α) (h:o+new.length<=l.length):bI (flatC (l.map enc)) (0+o*s) (flatC (new.map enc))=flatC ((l.take o++(new++l.drop (o+new.length))).map enc):=by
 unfold bI
 have e1:flatC (l.map enc)=flatC ((l.take o).map enc)++flatC ((l.drop o).map enc):=by rw[<- bK,<- List.map_append,List.take_append_drop]
 have e2:(flatC ((l.take o).map enc)).length=0+o*s:=by rw[aZ hs,List.length_take,Nat.min_eq_left (by omega)];omega
 have e3:flatC (l.map enc)=flatC ((l.take (o+new.length)).map enc)++flatC ((l.drop (o+new.length)).map enc):=by rw[<- bK,<- List.map_append,List.take_append_drop]
 have e4:(flatC ((l.take (o+new.length)).map enc)).length=0+o*s+(flatC (new.map enc)).length:=by
  rw[aZ hs,aZ hs,List.length_take,Nat.min_eq_left (by omega),Nat.add_mul];omega
 have e5:(flatC (l.map enc)).take (0+o*s)=flatC ((l.take o).map enc):=by rw[e1];exact List.take_left' e2
 have e6:(flatC (l.map enc)).drop (0+o*s+(flatC (new.map enc)).length)=flatC ((l.drop (o+new.length)).map enc):=by
  conv=>lhs;rw[e3]
  exact List.drop_left' e4
 rw[e5,e6,List.map_append,List.map_append,bK,bK,List.append_assoc]
theorem tw {α:Type}{enc:α->Value} (hone:∀ x:α,(cl (enc x)).all Value.oneCell'=true) (l:List α):(flatC (l.map enc)).all Value.oneCell'=true:=by
 rw[List.all_eq_true]
 intro v m
 simp only[flatC,List.mem_flatMap,List.mem_map] at m
 obtain⟨_,⟨a,_,rfl⟩,m⟩:=m
 exact List.all_eq_true.1 (hone a) v m
theorem At.same {s:Slot}{L:List Slot}{f:Slot->List Slot} (A:At s L f):f s=L:=by
 induction A with
 |head L=>rfl
 |tail r _ ih=>exact congrArg (List.cons r) ih
theorem Own.Bc {α:Type}{enc:α->Value}{l src:List α}{td tx te:TypeId}{x y:Operand}{s g o n cap off:Nat}{sp:Option Nat}{f:Slot->List Slot}{K:Value->Heap->Prop} (O:Own B h0 L h) (A:At (some g,.cells (flatC (l.map enc)) false) L f)
  (hts:P.underlying td=some (.slice te)) (hs:aL P te=some s) (hoff:off=0+o*s) (hx:ρ x=.slice (some ⟨g,off,sp⟩) n cap) (hy:SrcOk h s (ρ y) enc src) (hsz:∀ x:α,(cl (enc x)).length=s) (hpos:0<s) (hone:∀ x:α,(cl (enc x)).all Value.oneCell'=true)
  (hlim:o+n<=l.length) (k:∀ h1,Own B h0 (f (some g,.cells (flatC ((kf l o n src).map enc)) false)) h1->K (.int .i64 (Int.ofNat (min n src.length))) h1) :
  ∃ (v:Value) (T:Heap->Prop),(∃ h',dp P ρ { dst:=d,op:=.call { callee:=.builtin .copy,args := #[x,y],argTypes := #[td,tx] },type:=ty,pos:=pos,after:=af,guard:=gd } h=some (v,h')/\T h')/\∀ h1,T h1->K v h1:=by
 subst hoff
 have hm:Nat.min src.length n<=src.length:=Nat.min_le_left _ _
 have hf:=hy.first _ hm
 have hl:=hy.len
 have hmin:Nat.min src.length n=min n src.length:=Nat.min_comm _ _
 rw[hmin] at hf hm
 unfold dp fZ
 simp only[List.map_cons,List.map_nil,hx,hts,hs,hl]
 rw[hmin]
 simp only[hf]
 unfold lb
 by_cases hn:min n src.length=0
 ·have e:kf l o n src=l:=by unfold kf;rw[hn];simp
  rw[hn] at k ⊢
  rw[if_pos (by simp[flatC])]
  refine⟨_,fun h1=>h1=h,⟨h,rfl,rfl⟩,fun h1 q=>?_⟩
  subst q
  refine k h1 ?_
  rw[e,A.same];exact O
 ·have hlen:(src.take (min n src.length)).length=min n src.length:=by rw[List.length_take,Nat.min_eq_left hm]
  have hmn:min n src.length<=n:=Nat.min_le_left _ _
  have hne:flatC ((src.take (min n src.length)).map enc)≠[]:=by
   intro q
   have:=congrArg List.length q
   rw[aZ hsz,hlen,List.length_nil] at this
   rcases Nat.mul_eq_zero.1 this with q|q <;> omega
  have hle:0+o*s+(flatC ((src.take (min n src.length)).map enc)).length<=(flatC (l.map enc)).length:=by
   rw[aZ hsz,aZ hsz,hlen]
   have:(o+min n src.length)*s<=l.length*s:=Nat.mul_le_mul_right s (by omega)
   rw[Nat.add_mul] at this
   omega
  obtain⟨hgs,hgg⟩:=O.get g _ A.mem
  rw[if_neg hne]
  simp only[hgg]
  rw[if_pos ⟨hle,tw hone _,by omega⟩]
  have u:=Upd.upd (h:=h) (g:=g) (.cells (bI (flatC (l.map enc)) (0+o*s) (flatC ((src.take (min n src.length)).map enc))) false) (Heap.ak hgg)
  have O1:=O.upd A u
  rw[jL hsz l o (src.take (min n src.length)) (by rw[hlen];omega),hlen] at O1
  refine⟨_,fun h1=>Own B h0 (f (some g,.cells (flatC ((kf l o n src).map enc)) false)) h1,⟨_,rfl,?_⟩,fun h1 q=>k h1 q⟩
  rw[jL hsz l o (src.take (min n src.length)) (by rw[hlen];omega),hlen]
  exact O1
theorem Own.AQ {α:Type}{enc:α->Value}{l new:List α}{ts tx te:TypeId}{dx:TypeDesc}{x y:Operand}{s b g n cap:Nat}{z:Value}{f:Slot->List Slot}{K:Value->Heap->Prop} (O:Own B h0 L h) (A:At (some g,.cells (flatC (l.map enc)) false) L f)
  (hts:P.underlying ts=some (.slice te)) (htx:P.underlying tx=some dx) (hni:dJ dx=true) (hs:aL P te=some s) (hb:iq P te=some b) (hz:zeroOf P te=some z)
  (hx:ρ x=.slice (some ⟨g,0,none⟩) n cap) (hy:YOk h s (ρ y) enc new) (hsz:∀ x:α,(cl (enc x)).length=s) (hone:∀ x:α,(cl (enc x)).all Value.oneCell'=true)
  (hpos:0<new.length) (hroom:n+new.length<=cap) (hcap:n+new.length<=l.length)
  (k:∀ h1,Own B h0 (f (some g,.cells (flatC ((l.take n++(new++l.drop (n+new.length))).map enc)) false)) h1->K (.slice (some ⟨g,0,none⟩) (n+new.length) cap) h1) :
  ∃ (v:Value) (T:Heap->Prop),(∃ h',dp P ρ { dst:=d,op:=.call { callee:=.builtin .append,args := #[x,y],argTypes := #[ts,tx] },type:=ty,pos:=pos,after:=af,guard:=gd } h=some (v,h')/\T h')/\∀ h1,T h1->K v h1:=by
 have hy0:=hy.len
 have hf0:=hy.first
 unfold dp fZ
 simp only[List.map_cons,List.map_nil,hx,hts,htx,hni,if_true,hs,hb,hz,hy0,hf0]
 unfold cS
 obtain⟨hgs,hgg⟩:=O.get g _ A.mem
 rw[if_neg (by omega),if_pos hroom]
 simp only[hgg]
 have hle:0+n*s+(flatC (new.map enc)).length<=(flatC (l.map enc)).length:=by
  rw[aZ hsz,aZ hsz]
  have:(n+new.length)*s<=l.length*s:=Nat.mul_le_mul_right s hcap
  rw[Nat.add_mul] at this
  omega
 rw[if_pos ⟨hle,tw hone _⟩,jL hsz l n new hcap]
 have u:=Upd.upd (h:=h) (g:=g) (.cells (flatC ((l.take n++(new++l.drop (n+new.length))).map enc)) false) (Heap.ak hgg)
 exact⟨_,fun h1=>Own B h0 (f (some g,.cells (flatC ((l.take n++(new++l.drop (n+new.length))).map enc)) false)) h1,⟨_,rfl,O.upd A u⟩,fun h1 q=>k h1 q⟩
theorem Own.Cb {α:Type}{enc:α->Value}{l:List α}{b s n cap g:Nat}{sp:Option Nat}{ro:Bool}{h2:Heap} (O:Own B h0 L h) (F:Frozen b h h2) (hb:b<=h0.size) (m:(some g,.cells (flatC (l.map enc)) ro)∈L) (hs:∀ x:α,(cl (enc x)).length=s) (hn:n<=l.length):VLe h2 (.slice (some ⟨g,0,sp⟩) n cap) (ag s enc (l.take n)):=by
 obtain⟨q1,q2⟩:=O.get g _ m
 have e:=sV hs l 0 n (by omega)
 rw[show 0+0*s=0 by omega,List.drop_zero,List.drop_zero] at e
 have:n*s<=l.length*s:=Nat.mul_le_mul_right s hn
 refine VLe.fl (F.at (Nat.le_trans hb q1) q2) (by rw[List.length_map,List.length_take,Nat.min_eq_left hn]) (cb hs _) (by rw[aZ hs];omega) ?_
 rw[List.drop_zero,e]
 exact LLe.refl _ _
theorem BV {t e:TypeId}{x y:Operand}{m n b s:Nat}{z:Value} (hu:P.underlying t=some (.slice e)) (hs:aL P e=some s) (hb:iq P e=some b) (hz:zeroOf P e=some z) (hz1:z.cells.size=s) (hpos:0<s) (hp:z.cells.all aI=true)
  (hx:ρ x=.int .i64 (Int.ofNat m)) (hy:ρ y=.int .i64 (Int.ofNat n)) (hmn:m<=n) (hn:b*n<=2 ^ 48) (hn2:n<2 ^ 63) :
  anew P ρ { dst:=d,op:=.makeSlice t x y,type:=ty,pos:=pos,after:=af,guard:=gd }=some (.cells (flatC (List.replicate n z)) false,fun g=>.slice (some ⟨g,0,none⟩) m n):=by
 unfold anew
 simp only[hu,hx,hy,hs,hb,hz]
 have c:0<=Int.ofNat m/\Int.ofNat m<=Int.ofNat n/\(b:Int)*Int.ofNat n<=2 ^ 48/\Int.ofNat n<2 ^ 63/\z.cells.all aI=true:=by
  refine⟨Int.natCast_nonneg m,Int.ofNat_le.2 hmn,?_,?_,hp⟩
  ·have:((b*n:Nat):Int)<=((2 ^ 48:Nat):Int):=Int.ofNat_le.2 hn
   simpa using this
  ·have:((n:Nat):Int)<((2 ^ 63:Nat):Int):=Int.ofNat_lt.2 hn2
   simpa using this
 rw[if_pos c]
 have e1:(Int.ofNat n).toNat=n:=rfl
 have e2:(Int.ofNat m).toNat=m:=rfl
 rw[e1,e2,si hz1 hpos]
theorem Own.Cc {α:Type}{enc:α->Value}{z:α}{t e:TypeId}{x y:Operand}{m n b s:Nat}{K:Value->Heap->Prop} (O:Own B h0 L h) (hu:P.underlying t=some (.slice e)) (hs:aL P e=some s) (hb:iq P e=some b) (hz:zeroOf P e=some (enc z)) (hz1:(enc z).cells.size=s) (hpos:0<s) (hp:(enc z).cells.all aI=true)
  (hx:ρ x=.int .i64 (Int.ofNat m)) (hy:ρ y=.int .i64 (Int.ofNat n)) (hmn:m<=n) (hn:b*n<=2 ^ 48) (hn2:n<2 ^ 63)
  (k:∀ g h1,Own B h0 ((some g,.cells (flatC ((List.replicate n z).map enc)) false)::L) h1->K (.slice (some ⟨g,0,none⟩) m n) h1) :
  NewG P ρ { dst:=d,op:=.makeSlice t x y,type:=ty,pos:=pos,after:=af,guard:=gd } h K:=by
 refine O.new (BV hu hs hb hz hz1 hpos hp hx hy hmn hn hn2) fun g h1 O=>k g h1 ?_
 rw[List.map_replicate];exact O
def n64 (n:Nat):Value:=.int .u64 (Int.ofNat n)
theorem Au {a:Nat} (h:a<2 ^ 64):IntKind.u64.wrap (Int.ofNat a)=Int.ofNat a:=IntWalk.u64_in _ (by simp only[Int.ofNat_eq_natCast];omega)
theorem qn {ι:Inj}{e:Env}{a:Act} (r:ERel ι e a) {t:Nat} (ht:t<e.n) {g o:Nat} (hv:e.get t=.pointer (some ⟨g,o,none⟩)):∃ l,ι g=some l:=by
 have:=r.get t ht
 rw[hv] at this
 generalize a.tmps.getD t undef=y at this
 cases this with
 |ptr _ _ l0 q=>exact⟨l0,q⟩
end
end Go.Abs
