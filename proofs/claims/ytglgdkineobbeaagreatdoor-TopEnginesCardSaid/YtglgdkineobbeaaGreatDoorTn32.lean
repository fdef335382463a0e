/- Parts of the proof. -/
import Derived.Test.YtglgdkineobbeaaGreatDoorTn31
open Go.Value renaming oneCell'->MV
open Int renaming ofNat->LQ
open List renaming replicate->LY
open Nat renaming min->Rz
namespace Go.Abs
section
variable {P:Program} {N:Nat} {B:List AObj} {h0 h:Heap} {L:List Slot} {ρ:Operand->Value} {d:Option Tmp} {ty:TypeId} {pos:String} {af:Array Edge} {gd:Option (Nat×Bool)}
theorem yZ{k:IntKind}{a y:Nat}(h:a<=y):bnd (.int k (LQ a)) y=some a:=if_pos ⟨MN a,Pf.2 h⟩
theorem Jp{t e:TypeId}{x hi:Operand}{g s n cap m:Nat}{kk:IntKind}{K:Value->Prop}
  (hu:P.underlying t=some (.slice e)) (hs:bb P e=some s) (hx:ρ x=.slice (some ⟨g,0,none⟩) n cap) (hh:ρ hi=.int kk (LQ m)) (hm:m<=cap) (hk:K (.slice (some ⟨g,0,none⟩) m cap)) :
  ∃v,aC P ρ { dst:=d,op:=.slice t x none (some hi) none,type:=ty,pos:=pos,after:=af,guard:=gd }=some v/\K v:=by
 have e0:0+0*s=0:=by omega
 refine⟨_,?_,hk⟩;unfold aC
 have hb:il n cap none (some (.int kk (LQ m))) none=some (0,m,cap):=by
  unfold il;simp only[yZ hm]
 simp only[hu,hx,hs,MI,Oi,hh,hb,e0,Ou]
theorem Iu{t e:TypeId}{x lo:Operand}{g s n cap m:Nat}{kk:IntKind}{K:Value->Prop}
  (hu:P.underlying t=some (.slice e)) (hs:bb P e=some s) (hx:ρ x=.slice (some ⟨g,0,none⟩) n cap) (hh:ρ lo=.int kk (LQ m)) (hm:m<=n) (hk:K (.slice (some ⟨g,0+m*s,none⟩) (n-m) (cap-m))) :
  ∃v,aC P ρ { dst:=d,op:=.slice t x (some lo) none none,type:=ty,pos:=pos,after:=af,guard:=gd }=some v/\K v:=by
 refine⟨_,?_,hk⟩;unfold aC
 have hb:il n cap (some (.int kk (LQ m))) none none=some (m,n,cap):=by
  unfold il;simp only[yZ hm]
 simp only[hu,hx,hs,MI,Oi,hh,hb]
structure SrcOk {α:Type} (h:Heap) (s:Nat) (v:Value) (enc:α->Value) (src:List α):Prop where
 len:lenOf v=some src.length
 first:∀m,m<=src.length->bT h s m v=some (ah ((src.take m).map enc))
theorem SrcOk.fl{α:Type}{h:Heap}{s:Nat}{v:Value}{enc:α->Value}{src:List α}(hy:v=FL s (src.map enc)):SrcOk h s v enc src:=by
 subst hy;refine⟨?_,λm hm=>?_⟩
 .show some (src.map enc).length=_
  rw[LZ]
 .unfold bT FL
  cases hq:src with
  |nil=>simp[ah]
  |cons a r =>
   have:Nat.beq s s=true:=Ra s;simp only[MM,this];rw[<- MM,<- List.map_take]
theorem xW{α:Type}{enc:α->Value}{s:Nat}(hs:∀x:α,(cl (enc x)).length=s)(l:List α)(o m:Nat)(h:o+m<=l.length):((ah (l.map enc)).drop (0+o*s)).take (m*s)=ah (((l.drop o).take m).map enc):=by
 have e1:ah (l.map enc)=ah ((l.take o).map enc)++(ah (((l.drop o).take m).map enc)++ah (((l.drop o).drop m).map enc)):=by
  rw[<- ck,<- MT,Na,<- ck,<- MT,Na]
 have e2:(ah ((l.take o).map enc)).length=0+o*s:=by rw[bn hs,L8,Nb (by omega)];omega
 have e3:(ah (((l.drop o).take m).map enc)).length=m*s:=by rw[bn hs,L8,No,Nb (by omega)]
 rw[e1,Ri e2,Qo e3]
theorem SrcOk.win{α:Type}{h:Heap}{s g n cap o:Nat}{sp:Option Nat}{ro:Bool}{v:Value}{enc:α->Value}{l:List α}(hg:h.get g=some (.cells (ah (l.map enc)) ro))(hv:v=.slice (some ⟨g,0+o*s,sp⟩) n cap)(hs:∀x:α,(cl (enc x)).length=s)(hn:o+n<=l.length):SrcOk h s v enc ((l.drop o).take n):=by
 subst hv
 have hl:((l.drop o).take n).length=n:=by rw[L8,No];omega
 refine⟨by rw[hl];rfl,λm hm=>?_⟩;rw[hl] at hm;unfold bT;simp only[hg];have:(o+m)*s<=l.length*s:=MY s (by omega);rw[Nk] at this;rw[if_pos (by rw[bn hs];omega),xW hs l o m (by omega),List.take_take,Nb hm]
theorem SrcOk.LI{α:Type}{h:Heap}{s g n cap:Nat}{sp:Option Nat}{ro:Bool}{v:Value}{enc:α->Value}{l:List α}(hg:h.get g=some (.cells (ah (l.map enc)) ro))(hv:v=.slice (some ⟨g,0,sp⟩) n cap)(hs:∀x:α,(cl (enc x)).length=s)(hn:n<=l.length):SrcOk h s v enc (l.take n):=by
 have:=SrcOk.win (o:=0) (v:=v) hg (by rw[hv];congr 3;omega) hs (by omega);rwa [M0] at this
def nX{α:Type}(l:List α)(o n:Nat)(src:List α):List α:=l.take o++(src.take (min n src.length)++l.drop (o+min n src.length))
theorem lu{α:Type}{enc:α->Value}{s:Nat}(hs:∀x:α,(cl (enc x)).length=s)(l:List α)(o:Nat)(new:List α)(h:o+new.length<=l.length):bJ (ah (l.map enc)) (0+o*s) (ah (new.map enc))=ah ((l.take o++(new++l.drop (o+new.length))).map enc):=by
 unfold bJ
 have e1:ah (l.map enc)=ah ((l.take o).map enc)++ah ((l.drop o).map enc):=by rw[<- ck,<- MT,Na]
 have e2:(ah ((l.take o).map enc)).length=0+o*s:=by rw[bn hs,L8,Nb (by omega)];omega
 have e3:ah (l.map enc)=ah ((l.take (o+new.length)).map enc)++ah ((l.drop (o+new.length)).map enc):=by rw[<- ck,<- MT,Na]
 have e4:(ah ((l.take (o+new.length)).map enc)).length=0+o*s+(ah (new.map enc)).length:=by
  rw[bn hs,bn hs,L8,Nb (by omega),Nk];omega
 have e5:(ah (l.map enc)).take (0+o*s)=ah ((l.take o).map enc):=by rw[e1];exact Qo e2
 have e6:(ah (l.map enc)).drop (0+o*s+(ah (new.map enc)).length)=ah ((l.drop (o+new.length)).map enc):=by
  conv=>lhs;rw[e3]
  exact Ri e4
 rw[e5,e6,MT,MT,ck,ck,MC]
theorem wO{α:Type}{enc:α->Value}(hone:∀x:α,(cl (enc x)).all MV=true)(l:List α):(ah (l.map enc)).all MV=true:=by
 rw[Md];intro v m;simp only[ah,N8,MP] at m;obtain⟨_,⟨a,_,rfl⟩,m⟩:=m;exact Md.1 (hone a) v m
theorem At.same{s:Slot}{L:List Slot}{f:Slot->List Slot}(A:At s L f):f s=L:=by
 induction A with
 |head L=>rfl
 |tail r _ ih=>exact congrArg (List.cons r) ih
theorem Own.JI{α:Type}{enc:α->Value}{l src:List α}{td tx te:TypeId}{x y:Operand}{s g o n cap off:Nat}{sp:Option Nat}{f:Slot->List Slot}{K:Value->Heap->Prop}(O:Own B h0 L h)(A:At (some g,.cells (ah (l.map enc)) false) L f)
  (hts:P.underlying td=some (.slice te)) (hs:bb P te=some s) (hoff:off=0+o*s) (hx:ρ x=.slice (some ⟨g,off,sp⟩) n cap) (hy:SrcOk h s (ρ y) enc src) (hsz:∀x:α,(cl (enc x)).length=s) (hpos:0<s) (hone:∀x:α,(cl (enc x)).all MV=true)
  (hlim:o+n<=l.length) (k:∀h1,Own B h0 (f (some g,.cells (ah ((nX l o n src).map enc)) false)) h1->K (.int .i64 (LQ (min n src.length))) h1) :
  ∃(v:Value) (T:Heap->Prop),(∃h',cZ P ρ { dst:=d,op:=.call { callee:=.builtin .copy,args := #[x,y],argTypes := #[td,tx] },type:=ty,pos:=pos,after:=af,guard:=gd } h=some (v,h')/\T h')/\∀h1,T h1->K v h1:=by
 subst hoff;have hm:Rz src.length n<=src.length:=NW _ _;have hf:=hy.first _ hm;have hl:=hy.len;have hmin:Rz src.length n=min n src.length:=Nat.min_comm _ _;rw[hmin] at hf hm;unfold cZ fa;simp only[MM,ND,hx,hts,hs,hl];rw[hmin];simp only[hf];unfold pj;by_cases hn:min n src.length=0
 .have e:nX l o n src=l:=by unfold nX;rw[hn];simp
  rw[hn] at k ⊢;rw[if_pos (by simp[ah])];refine⟨_,λh1=>h1=h,⟨h,rfl,rfl⟩,λh1 q=>?_⟩;subst q;refine k h1 ?_;rw[e,A.same];exact O
 .have hlen:(src.take (min n src.length)).length=min n src.length:=by rw[L8,Nb hm]
  have hmn:min n src.length<=n:=NW _ _
  have hne:ah ((src.take (min n src.length)).map enc)≠[]:=by
   intro q;have:=congrArg List.length q;rw[bn hsz,hlen,N4] at this
   rcases Nat.mul_eq_zero.1 this with q|q <;> omega
  have hle:0+o*s+(ah ((src.take (min n src.length)).map enc)).length<=(ah (l.map enc)).length:=by
   rw[bn hsz,bn hsz,hlen];have:(o+min n src.length)*s<=l.length*s:=MY s (by omega);rw[Nk] at this;omega
  obtain⟨hgs,hgg⟩:=O.get g _ A.mem;rw[if_neg hne];simp only[hgg];rw[if_pos ⟨hle,wO hone _,by omega⟩];have u:=Upd.upd (h:=h) (g:=g) (.cells (bJ (ah (l.map enc)) (0+o*s) (ah ((src.take (min n src.length)).map enc))) false) (Heap.ai hgg);have O1:=O.upd A u;rw[lu hsz l o (src.take (min n src.length)) (by rw[hlen];omega),hlen] at O1;refine⟨_,λh1=>Own B h0 (f (some g,.cells (ah ((nX l o n src).map enc)) false)) h1,⟨_,rfl,?_⟩,λh1 q=>k h1 q⟩;rw[lu hsz l o (src.take (min n src.length)) (by rw[hlen];omega),hlen];exact O1
theorem Own.I2{α:Type}{enc:α->Value}{l new:List α}{ts tx te:TypeId}{dx:TypeDesc}{x y:Operand}{s b g n cap:Nat}{z:Value}{f:Slot->List Slot}{K:Value->Heap->Prop}(O:Own B h0 L h)(A:At (some g,.cells (ah (l.map enc)) false) L f)
  (hts:P.underlying ts=some (.slice te)) (htx:P.underlying tx=some dx) (hni:fh dx=true) (hs:bb P te=some s) (hb:kH P te=some b) (hz:zeroOf P te=some z)
  (hx:ρ x=.slice (some ⟨g,0,none⟩) n cap) (hy:YOk h s (ρ y) enc new) (hsz:∀x:α,(cl (enc x)).length=s) (hone:∀x:α,(cl (enc x)).all MV=true)
  (hpos:0<new.length) (hroom:n+new.length<=cap) (hcap:n+new.length<=l.length)
  (k:∀h1,Own B h0 (f (some g,.cells (ah ((l.take n++(new++l.drop (n+new.length))).map enc)) false)) h1->K (.slice (some ⟨g,0,none⟩) (n+new.length) cap) h1) :
  ∃(v:Value) (T:Heap->Prop),(∃h',cZ P ρ { dst:=d,op:=.call { callee:=.builtin .append,args := #[x,y],argTypes := #[ts,tx] },type:=ty,pos:=pos,after:=af,guard:=gd } h=some (v,h')/\T h')/\∀h1,T h1->K v h1:=by
 have hy0:=hy.len;have hf0:=hy.first;unfold cZ fa;simp only[MM,ND,hx,hts,htx,hni,if_true,hs,hb,hz,hy0,hf0];unfold dI;obtain⟨hgs,hgg⟩:=O.get g _ A.mem;rw[if_neg (by omega),if_pos hroom];simp only[hgg]
 have hle:0+n*s+(ah (new.map enc)).length<=(ah (l.map enc)).length:=by
  rw[bn hsz,bn hsz];have:(n+new.length)*s<=l.length*s:=MY s hcap;rw[Nk] at this;omega
 rw[if_pos ⟨.inl hle,wO hone _⟩,lu hsz l n new hcap];have u:=Upd.upd (h:=h) (g:=g) (.cells (ah ((l.take n++(new++l.drop (n+new.length))).map enc)) false) (Heap.ai hgg);exact⟨_,λh1=>Own B h0 (f (some g,.cells (ah ((l.take n++(new++l.drop (n+new.length))).map enc)) false)) h1,⟨_,rfl,O.upd A u⟩,λh1 q=>k h1 q⟩
theorem Own.Lb{α:Type}{enc:α->Value}{l:List α}{b s n cap g:Nat}{sp:Option Nat}{ro:Bool}{h2:Heap}(O:Own B h0 L h)(F:Frozen b h h2)(hb:b<=h0.size)(m:(some g,.cells (ah (l.map enc)) ro)∈L)(hs:∀x:α,(cl (enc x)).length=s)(hn:n<=l.length):VLe h2 (.slice (some ⟨g,0,sp⟩) n cap) (ae s enc (l.take n)):=by
 obtain⟨q1,q2⟩:=O.get g _ m;have e:=xW hs l 0 n (by omega);rw[show 0+0*s=0 by omega,M0,M0] at e;have:n*s<=l.length*s:=MY s hn;refine VLe.fl (F.at (Mf hb q1) q2) (by rw[LZ,L8,Nb hn]) (bE hs _) (by rw[bn hs];omega) ?_;rw[M0,e];exact LLe.refl _ _
theorem JW{t e:TypeId}{x y:Operand}{m n b s:Nat}{z:Value}(hu:P.underlying t=some (.slice e))(hs:bb P e=some s)(hb:kH P e=some b)(hz:zeroOf P e=some z)(hz1:z.cells.size=s)(hpos:0<s)(hp:z.cells.all aR=true)
  (hx:ρ x=.int .i64 (LQ m)) (hy:ρ y=.int .i64 (LQ n)) (hmn:m<=n) (hn:b*n<=2^48) (hn2:n<2^63) :
  ew P ρ { dst:=d,op:=.makeSlice t x y,type:=ty,pos:=pos,after:=af,guard:=gd }=some (.cells (ah (LY n z)) false,λg=>.slice (some ⟨g,0,none⟩) m n):=by
 unfold ew;simp only[hu,hx,hy,hs,hb,hz]
 have c:0<=LQ m/\LQ m<=LQ n/\(b:Int)*LQ n<=2^48/\LQ n<2^63/\z.cells.all aR=true:=by
  refine⟨MN m,Pf.2 hmn,?_,?_,hp⟩
  .have:((b*n:Nat):Int)<=((2^48:Nat):Int):=Pf.2 hn;simpa using this
  .have:((n:Nat):Int)<((2^63:Nat):Int):=RZ.2 hn2;simpa using this
 rw[if_pos c];have e1:(LQ n).toNat=n:=rfl;have e2:(LQ m).toNat=m:=rfl;rw[e1,e2,tH hz1 hpos]
theorem Own.KO{α:Type}{enc:α->Value}{z:α}{t e:TypeId}{x y:Operand}{m n b s:Nat}{K:Value->Heap->Prop}(O:Own B h0 L h)(hu:P.underlying t=some (.slice e))(hs:bb P e=some s)(hb:kH P e=some b)(hz:zeroOf P e=some (enc z))(hz1:(enc z).cells.size=s)(hpos:0<s)(hp:(enc z).cells.all aR=true)
  (hx:ρ x=.int .i64 (LQ m)) (hy:ρ y=.int .i64 (LQ n)) (hmn:m<=n) (hn:b*n<=2^48) (hn2:n<2^63)
  (k:∀g h1,Own B h0 ((some g,.cells (ah ((LY n z).map enc)) false)::L) h1->K (.slice (some ⟨g,0,none⟩) m n) h1) :
  NewG P ρ { dst:=d,op:=.makeSlice t x y,type:=ty,pos:=pos,after:=af,guard:=gd } h K:=by
 refine O.new (JW hu hs hb hz hz1 hpos hp hx hy hmn hn hn2) λg h1 O=>k g h1 ?_;rw[OK];exact O
def n64(n:Nat):Value:=.int .u64 (LQ n)
theorem pA{a:Nat}(h:a<2^64):IntKind.u64.wrap (LQ a)=LQ a:=IntWalk.u64_in _ (by simp only[L4];omega)
theorem xu{ι:Inj}{e:Env}{a:Act}(r:ERel ι e a){t:Nat}(ht:t<e.n){g o:Nat}(hv:e.get t=.pointer (some ⟨g,o,none⟩)):∃l,ι g=some l:=by
 have:=r.get t ht;rw[hv] at this;generalize a.tmps.getD t undef=y at this
 cases this with
 |ptr _ _ l0 q=>exact⟨l0,q⟩
end
end Go.Abs
