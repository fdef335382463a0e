/-
  AbsXu: parts of the proof.
-/
import Derived.Test.YtgiedjgdlckahaaGreatDoorTk31
namespace Go.Abs
section
variable {P:Program} {N:Nat} {B:List AObj} {h0 h:Heap} {L:List Slot} {ρ:Operand->Value} {d:Option Tmp} {ty:TypeId} {pos:String} {af:Array Edge} {gd:Option (Nat×Bool)}
theorem yy {k:IntKind}{a y:Nat} (h:a<=y):bnd (.int k (Int.ofNat a)) y=some a:=if_pos ⟨Int.natCast_nonneg a,Int.ofNat_le.2 h⟩
theorem Jf {t e:TypeId}{x hi:Operand}{g s n cap m:Nat}{kk:IntKind}{K:Value->Prop}
  (hu:P.underlying t=some (.slice e)) (hs:aQ P e=some s) (hx:ρ x=.slice (some ⟨g,0,none⟩) n cap) (hh:ρ hi=.int kk (Int.ofNat m)) (hm:m<=cap) (hk:K (.slice (some ⟨g,0,none⟩) m cap)) :
  ∃ v,aq P ρ { dst:=d,op:=.slice t x none (some hi) none,type:=ty,pos:=pos,after:=af,guard:=gd }=some v/\K v:=by
 have e0:0+0*s=0:=by omega
 refine⟨_,?_,hk⟩;unfold aq
 have hb:fa n cap none (some (.int kk (Int.ofNat m))) none=some (0,m,cap):=by
  unfold fa;simp only[yy hm]
 simp only[hu,hx,hs,Option.map_some,Option.map_none,hh,hb,e0,Nat.sub_zero]
theorem GC {t e:TypeId}{x lo:Operand}{g s n cap m:Nat}{kk:IntKind}{K:Value->Prop}
  (hu:P.underlying t=some (.slice e)) (hs:aQ P e=some s) (hx:ρ x=.slice (some ⟨g,0,none⟩) n cap) (hh:ρ lo=.int kk (Int.ofNat m)) (hm:m<=n) (hk:K (.slice (some ⟨g,0+m*s,none⟩) (n-m) (cap-m))) :
  ∃ v,aq P ρ { dst:=d,op:=.slice t x (some lo) none none,type:=ty,pos:=pos,after:=af,guard:=gd }=some v/\K v:=by
 refine⟨_,?_,hk⟩;unfold aq
 have hb:fa n cap (some (.int kk (Int.ofNat m))) none none=some (m,n,cap):=by
  unfold fa;simp only[yy hm]
 simp only[hu,hx,hs,Option.map_some,Option.map_none,hh,hb]
structure SrcOk {α:Type} (h:Heap) (s:Nat) (v:Value) (enc:α->Value) (src:List α):Prop where
 len:lenOf v=some src.length
 first:∀ m,m<=src.length->firstOf h s m v=some (flatC ((src.take m).map enc))
theorem SrcOk.fl {α:Type}{h:Heap}{s:Nat}{v:Value}{enc:α->Value}{src:List α} (hy:v=FL s (src.map enc)):SrcOk h s v enc src:=by
 subst hy;refine⟨?_,fun m hm=>?_⟩
 ·show some (src.map enc).length=_
  rw[List.length_map]
 ·unfold firstOf FL
  cases hq:src with
  |nil=>simp[flatC]
  |cons a r =>
   have:Nat.beq s s=true:=Nat.beq_refl s;simp only[List.map_cons,this];rw[<- List.map_cons,<- List.map_take]
theorem qA {α:Type}{enc:α->Value}{s:Nat} (hs:∀ x:α,(cl (enc x)).length=s) (l:List α) (o m:Nat) (h:o+m<=l.length):((flatC (l.map enc)).drop (0+o*s)).take (m*s)=flatC (((l.drop o).take m).map enc):=by
 have e1:flatC (l.map enc)=flatC ((l.take o).map enc)++(flatC (((l.drop o).take m).map enc)++flatC (((l.drop o).drop m).map enc)):=by
  rw[<- bN,<- List.map_append,List.take_append_drop,<- bN,<- List.map_append,List.take_append_drop]
 have e2:(flatC ((l.take o).map enc)).length=0+o*s:=by rw[aX hs,List.length_take,Nat.min_eq_left (by omega)];omega
 have e3:(flatC (((l.drop o).take m).map enc)).length=m*s:=by rw[aX hs,List.length_take,List.length_drop,Nat.min_eq_left (by omega)]
 rw[e1,List.drop_left' e2,List.take_left' e3]
theorem SrcOk.win {α:Type}{h:Heap}{s g n cap o:Nat}{sp:Option Nat}{ro:Bool}{v:Value}{enc:α->Value}{l:List α} (hg:h.get g=some (.cells (flatC (l.map enc)) ro)) (hv:v=.slice (some ⟨g,0+o*s,sp⟩) n cap) (hs:∀ x:α,(cl (enc x)).length=s) (hn:o+n<=l.length):SrcOk h s v enc ((l.drop o).take n):=by
 subst hv
 have hl:((l.drop o).take n).length=n:=by rw[List.length_take,List.length_drop];omega
 refine⟨by rw[hl];rfl,fun m hm=>?_⟩;rw[hl] at hm;unfold firstOf;simp only[hg];have:(o+m)*s<=l.length*s:=Nat.mul_le_mul_right s (by omega);rw[Nat.add_mul] at this;rw[if_pos (by rw[aX hs];omega),qA hs l o m (by omega),List.take_take,Nat.min_eq_left hm]
theorem SrcOk.Kf {α:Type}{h:Heap}{s g n cap:Nat}{sp:Option Nat}{ro:Bool}{v:Value}{enc:α->Value}{l:List α} (hg:h.get g=some (.cells (flatC (l.map enc)) ro)) (hv:v=.slice (some ⟨g,0,sp⟩) n cap) (hs:∀ x:α,(cl (enc x)).length=s) (hn:n<=l.length):SrcOk h s v enc (l.take n):=by
 have:=SrcOk.win (o:=0) (v:=v) hg (by rw[hv];congr 3;omega) hs (by omega);rwa [List.drop_zero] at this
def mb {α:Type} (l:List α) (o n:Nat) (src:List α):List α:=l.take o++(src.take (min n src.length)++l.drop (o+min n src.length))
theorem lC {α:Type}{enc:α->Value}{s:Nat} (hs:∀ x:α,(cl (enc x)).length=s) (l:List α) (o:Nat) (new:List α) (h:o+new.length<=l.length):bp (flatC (l.map enc)) (0+o*s) (flatC (new.map enc))=flatC ((l.take o++(new++l.drop (o+new.length))).map enc):=by
 unfold bp
 have e1:flatC (l.map enc)=flatC ((l.take o).map enc)++flatC ((l.drop o).map enc):=by rw[<- bN,<- List.map_append,List.take_append_drop]
 have e2:(flatC ((l.take o).map enc)).length=0+o*s:=by rw[aX hs,List.length_take,Nat.min_eq_left (by omega)];omega
 have e3:flatC (l.map enc)=flatC ((l.take (o+new.length)).map enc)++flatC ((l.drop (o+new.length)).map enc):=by rw[<- bN,<- List.map_append,List.take_append_drop]
 have e4:(flatC ((l.take (o+new.length)).map enc)).length=0+o*s+(flatC (new.map enc)).length:=by
  rw[aX hs,aX hs,List.length_take,Nat.min_eq_left (by omega),Nat.add_mul];omega
 have e5:(flatC (l.map enc)).take (0+o*s)=flatC ((l.take o).map enc):=by rw[e1];exact List.take_left' e2
 have e6:(flatC (l.map enc)).drop (0+o*s+(flatC (new.map enc)).length)=flatC ((l.drop (o+new.length)).map enc):=by
  conv=>lhs;rw[e3]
  exact List.drop_left' e4
 rw[e5,e6,List.map_append,List.map_append,bN,bN,List.append_assoc]
theorem xW {α:Type}{enc:α->Value} (hone:∀ x:α,(cl (enc x)).all Value.oneCell'=true) (l:List α):(flatC (l.map enc)).all Value.oneCell'=true:=by
 rw[List.all_eq_true];intro v m;simp only[flatC,List.mem_flatMap,List.mem_map] at m;obtain⟨_,⟨a,_,rfl⟩,m⟩:=m;exact List.all_eq_true.1 (hone a) v m
theorem At.same {s:Slot}{L:List Slot}{f:Slot->List Slot} (A:At s L f):f s=L:=by
 induction A with
 |head L=>rfl
 |tail r _ ih=>exact congrArg (List.cons r) ih
theorem Own.Im {α:Type}{enc:α->Value}{l src:List α}{td tx te:TypeId}{x y:Operand}{s g o n cap off:Nat}{sp:Option Nat}{f:Slot->List Slot}{K:Value->Heap->Prop} (O:Own B h0 L h) (A:At (some g,.cells (flatC (l.map enc)) false) L f)
  (hts:P.underlying td=some (.slice te)) (hs:aQ P te=some s) (hoff:off=0+o*s) (hx:ρ x=.slice (some ⟨g,off,sp⟩) n cap) (hy:SrcOk h s (ρ y) enc src) (hsz:∀ x:α,(cl (enc x)).length=s) (hpos:0<s) (hone:∀ x:α,(cl (enc x)).all Value.oneCell'=true)
  (hlim:o+n<=l.length) (k:∀ h1,Own B h0 (f (some g,.cells (flatC ((mb l o n src).map enc)) false)) h1->K (.int .i64 (Int.ofNat (min n src.length))) h1) :
  ∃ (v:Value) (T:Heap->Prop),(∃ h',dp P ρ { dst:=d,op:=.call { callee:=.builtin .copy,args := #[x,y],argTypes := #[td,tx] },type:=ty,pos:=pos,after:=af,guard:=gd } h=some (v,h')/\T h')/\∀ h1,T h1->K v h1:=by
 subst hoff;have hm:Nat.min src.length n<=src.length:=Nat.min_le_left _ _;have hf:=hy.first _ hm;have hl:=hy.len;have hmin:Nat.min src.length n=min n src.length:=Nat.min_comm _ _;rw[hmin] at hf hm;unfold dp fO;simp only[List.map_cons,List.map_nil,hx,hts,hs,hl];rw[hmin];simp only[hf];unfold mF;by_cases hn:min n src.length=0
 ·have e:mb l o n src=l:=by unfold mb;rw[hn];simp
  rw[hn] at k ⊢;rw[if_pos (by simp[flatC])];refine⟨_,fun h1=>h1=h,⟨h,rfl,rfl⟩,fun h1 q=>?_⟩;subst q;refine k h1 ?_;rw[e,A.same];exact O
 ·have hlen:(src.take (min n src.length)).length=min n src.length:=by rw[List.length_take,Nat.min_eq_left hm]
  have hmn:min n src.length<=n:=Nat.min_le_left _ _
  have hne:flatC ((src.take (min n src.length)).map enc)≠[]:=by
   intro q;have:=congrArg List.length q;rw[aX hsz,hlen,List.length_nil] at this
   rcases Nat.mul_eq_zero.1 this with q|q <;> omega
  have hle:0+o*s+(flatC ((src.take (min n src.length)).map enc)).length<=(flatC (l.map enc)).length:=by
   rw[aX hsz,aX hsz,hlen];have:(o+min n src.length)*s<=l.length*s:=Nat.mul_le_mul_right s (by omega);rw[Nat.add_mul] at this;omega
  obtain⟨hgs,hgg⟩:=O.get g _ A.mem;rw[if_neg hne];simp only[hgg];rw[if_pos ⟨hle,xW hone _,by omega⟩];have u:=Upd.upd (h:=h) (g:=g) (.cells (bp (flatC (l.map enc)) (0+o*s) (flatC ((src.take (min n src.length)).map enc))) false) (Heap.ag hgg);have O1:=O.upd A u;rw[lC hsz l o (src.take (min n src.length)) (by rw[hlen];omega),hlen] at O1;refine⟨_,fun h1=>Own B h0 (f (some g,.cells (flatC ((mb l o n src).map enc)) false)) h1,⟨_,rfl,?_⟩,fun h1 q=>k h1 q⟩;rw[lC hsz l o (src.take (min n src.length)) (by rw[hlen];omega),hlen];exact O1
theorem Own.JB {α:Type}{enc:α->Value}{l:List α}{b s n cap g:Nat}{sp:Option Nat}{ro:Bool}{h2:Heap} (O:Own B h0 L h) (F:Frozen b h h2) (hb:b<=h0.size) (m:(some g,.cells (flatC (l.map enc)) ro)∈L) (hs:∀ x:α,(cl (enc x)).length=s) (hn:n<=l.length):VLe h2 (.slice (some ⟨g,0,sp⟩) n cap) (ah s enc (l.take n)):=by
 obtain⟨q1,q2⟩:=O.get g _ m;have e:=qA hs l 0 n (by omega);rw[show 0+0*s=0 by omega,List.drop_zero,List.drop_zero] at e;have:n*s<=l.length*s:=Nat.mul_le_mul_right s hn;refine VLe.fl (F.at (Nat.le_trans hb q1) q2) (by rw[List.length_map,List.length_take,Nat.min_eq_left hn]) (aZ hs _) (by rw[aX hs];omega) ?_;rw[List.drop_zero,e];exact LLe.refl _ _
def n64 (n:Nat):Value:=.int .u64 (Int.ofNat n)
theorem nD {a:Nat} (h:a<2 ^ 64):IntKind.u64.wrap (Int.ofNat a)=Int.ofNat a:=IntWalk.u64_in _ (by simp only[Int.ofNat_eq_natCast];omega)
theorem AY {ι:Inj}{e:Env}{a:Act} (r:ERel ι e a) {t:Nat} (ht:t<e.n) {g o:Nat} (hv:e.get t=.pointer (some ⟨g,o,none⟩)):∃ l,ι g=some l:=by
 have:=r.get t ht;rw[hv] at this;generalize a.tmps.getD t undef=y at this
 cases this with
 |ptr _ _ l0 q=>exact⟨l0,q⟩
end
end Go.Abs
