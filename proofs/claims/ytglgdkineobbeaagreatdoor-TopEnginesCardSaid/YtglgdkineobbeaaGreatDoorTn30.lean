/- Parts of the proof. -/
import Derived.Test.YtglgdkineobbeaaGreatDoorTn29
open Int renaming ofNat->LQ
open List renaming getD->Mh,replicate->LY,zipWith->Rd
namespace Go.Abs
theorem oq{α β γ:Type}(f:α->β->γ):∀(l:List α) (m:List β) (j:Nat) (x:α) (y:β),Rd f (l.set j x) (m.set j y)=(Rd f l m).set j (f x y)
 |[],m,j,x,y=>by simp
 |_::_,[],j,x,y=>by simp
 |a::l,b::m,0,x,y=>rfl
 |a::l,b::m,j+1,x,y=>by
  show _::_=_::_
  rw[oq f l m j x y]
section
variable {α:Type} {enc:α->Value} {s j:Nat} {A:List (Option Nat)} {R:List (List α)}
def aP(s:Nat)(enc:α->Value)(A:List (Option Nat))(R:List (List α)):List Value:=Rd (λa r=>ak s a (r.map enc)) A R
def aS(enc:α->Value)(A:List (Option Nat))(R:List (List α)):List Slot:=Rd (λa r=>(a,AObj.cells (ah (r.map enc)) false)) A R
structure RowsOk (A:List (Option Nat)) (R:List (List α)):Prop where
 len:A.length=R.length
 nil:∀(j:Nat) (r:List α) (a:Option Nat),R[j]?=some r->A[j]?=some a->(a=none↔r=[])
theorem kQ{a:Option Nat}{r:List α}(ha:A[j]?=some a)(hr:R[j]?=some r):(aS enc A R)[j]?=some (a,.cells (ah (r.map enc)) false):=by
 unfold aS;rw[Ol,ha,hr]
theorem uG{a:Option Nat}{r:List α}(ha:A[j]?=some a)(hr:R[j]?=some r):(aP s enc A R)[j]?=some (ak s a (r.map enc)):=by
 unfold aP;rw[Ol,ha,hr]
theorem nR{a:Option Nat}{r:List α}:aS enc (A.set j a) (R.set j r)=(aS enc A R).set j (a,.cells (ah (r.map enc)) false):=by
 unfold aS;rw[oq]
theorem lW{a:Option Nat}{r:List α}:aP s enc (A.set j a) (R.set j r)=(aP s enc A R).set j (ak s a (r.map enc)):=by
 unfold aP;rw[oq]
theorem pZ{r:List α}(hr:R[j]?=some r):R.set j r=R:=by
 obtain⟨h,rfl⟩:=LX.1 hr;exact P9 h
theorem RowsOk.set(ok:RowsOk A R){a:Option Nat}{r:List α}(h:a=none↔r=[]):RowsOk (A.set j a) (R.set j r):=by
 refine⟨by rw[Nj,Nj];exact ok.len,λi r' a' h1 h2=>?_⟩;rw[Mp] at h1 h2;by_cases c:j=i
 .rw[if_pos c] at h1 h2;split at h1
  .cases h1
   split at h2
   .cases h2;exact h
   .cases h2
  .cases h1
 .rw[if_neg c] at h1 h2;exact ok.nil i r' a' h1 h2
theorem RowsOk.start(n:Nat):RowsOk (LY n none) (LY n ([]:List α)):=by
 refine⟨by simp,λj r a h1 h2=>?_⟩;rw[Mt] at h1 h2;split at h1
 .rename_i c;rw[if_pos c] at h2
  cases h1;cases h2
  simp
 .cases h1
theorem xM(n:Nat):aP s enc (LY n none) (LY n ([]:List α))=LY n (.slice none 0 0):=by
 unfold aP;rw[List.zipWith_replicate];simp[ak]
theorem sE{β:Type}{l:List β}{x:β}{i:Nat}(hx:l[i]?=some x)(y:β):l=l.take i++x::l.drop (i+1)/\l.set i y=l.take i++y::l.drop (i+1):=by
 obtain⟨h,rfl⟩:=LX.1 hx;exact⟨by rw[Rc,Na],by rw[Oa,if_pos h]⟩
end
section
variable {P:Program} {ρ:Operand->Value} {d:Option Tmp} {ty:TypeId} {pos:String} {af:Array Edge} {gd:Option (Nat×Bool)}
variable {N:Nat} {B:List AObj} {h0 h:Heap} {L S:List Slot} {α:Type} {enc:α->Value} {s j:Nat} {A:List (Option Nat)} {R:List (List α)}
theorem lr.symm{p q:Slot}(a:lr p q):lr q p:=λg e e'=>a g e' e
theorem Own.perm{L':List Slot}(O:Own B h0 L h)(hp:L.Perm L'):Own B h0 L' h :=
 O.sub (λ_ m=>hp.mem_iff.2 m) ((hp.pairwise_iff (λa=>lr.symm a)).1 O.apart)
theorem Own.DK{X Z:List Slot}(O:Own B h0 (X++Z) h)(o:AObj):Own B h0 (X++(none,o)::Z) h :=
 (O.aZ o).perm OE.symm
theorem Own.J9{X Z:List Slot}{p:Slot}(O:Own B h0 (X++p::Z) h):Own B h0 (X++Z) h :=
 (O.perm OE).tail
theorem Own.KH(O:Own B h0 L h)(n:Nat):Own B h0 (L++aS enc (LY n none) (LY n ([]:List α))) h:=by
 induction n with
 |zero=>simpa[aS] using O
 |succ n ih =>
  have:aS enc (LY (n+1) none) (LY (n+1) ([]:List α))=(none,.cells (ah (([]:List α).map enc)) false)::aS enc (LY n none) (LY n []):=rfl;rw[this];exact ih.DK _
theorem Own.focus(ok:RowsOk A R)(O:Own B h0 (S++aS enc A R) h){r:List α}(hr:R[j]?=some r):∃a,A[j]?=some a/\(a=none↔r=[])/\Own B h0 ((a,.cells (ah (r.map enc)) false)::(S++aS enc (A.set j none) R)) h:=by
 have hj:j<A.length:=by rw[ok.len];exact ai hr
 have ha:A[j]?=some A[j]:=LU hj;refine⟨A[j],ha,ok.nil j r _ hr ha,?_⟩;obtain⟨e1,e2⟩:=sE (kQ (enc:=enc) ha hr) (none,.cells (ah (r.map enc)) false)
 have e3:aS enc (A.set j none) R=(aS enc A R).set j (none,.cells (ah (r.map enc)) false):=by
  conv=>lhs;rw[<- pZ hr]
  exact nR
 rw[e3,e2];rw[e1,<- MC] at O;have O2:=O.perm OE;have:=Own.DK (X:=(A[j],.cells (ah (r.map enc)) false)::(S++(aS enc A R).take j)) (Z:=(aS enc A R).drop (j+1)) (by simpa using O2) (.cells (ah (r.map enc)) false);simpa[MC] using this
theorem Own.uW{a:Option Nat}{r r':List α}(O:Own B h0 ((a,.cells (ah (r'.map enc)) false)::(S++aS enc (A.set j none) R)) h)(hr:R[j]?=some r)(ok:RowsOk A R):Own B h0 (S++aS enc (A.set j a) (R.set j r')) h:=by
 have hj:j<A.length:=by rw[ok.len];exact ai hr
 have ha:A[j]?=some A[j]:=LU hj;obtain⟨e1,e2⟩:=sE (kQ (enc:=enc) ha hr) (none,.cells (ah (r.map enc)) false)
 have e3:aS enc (A.set j none) R=(aS enc A R).set j (none,.cells (ah (r.map enc)) false):=by
  conv=>lhs;rw[<- pZ hr]
  exact nR
 rw[e3,e2] at O;rw[nR,(sE (kQ (enc:=enc) ha hr) _).2,<- MC];refine Own.perm (L:=(a,.cells (ah (r'.map enc)) false)::(S++(aS enc A R).take j++(aS enc A R).drop (j+1))) ?_ OE.symm
 have:Own B h0 (((a,.cells (ah (r'.map enc)) false)::(S++(aS enc A R).take j))++(none,.cells (ah (r.map enc)) false)::(aS enc A R).drop (j+1)) h:=by simpa[MC] using O
 simpa using this.J9
theorem Own.Ar{t e:TypeId}{x y:Operand}{n b:Nat}{K:Value->Heap->Prop}(enc:α->Value)(s:Nat)(O:Own B h0 L h)(hu:P.underlying t=some (.slice e))(hs:bb P e=some 1)(hb:kH P e=some b)(hz:zeroOf P e=some (.slice none 0 0))
  (hx:ρ x=.int .i64 (LQ n)) (hy:ρ y=.int .i64 (LQ n)) (hn:b*n<=2^48) (hn2:n<2^63)
  (k:∀g h1,Own B h0 ((some g,.cells (aP s enc (LY n none) (LY n ([]:List α))) false)::(L++aS enc (LY n none) (LY n ([]:List α)))) h1->K (.slice (some ⟨g,0,none⟩) n n) h1) :
  NewG P ρ { dst:=d,op:=.makeSlice t x y,type:=ty,pos:=pos,after:=af,guard:=gd } h K:=by
 refine O.new (K7 hu hs hb hz rfl rfl hx hy hn hn2) λg h1 O=>k g h1 ?_;rw[xM];exact O.KH n
theorem Own.Bg{t:TypeId}{a x:Operand}{g:Nat}{f:Slot->List Slot}{K:Value->Heap->Prop}{r:List α}{v:Value}(O:Own B h0 L h)(At1:At (some g,.cells (aP s enc A R) false) L f)(ok:RowsOk A R)(hr:R[j]?=some r)(ha:ρ a=.pointer (some ⟨g,0+j*1,none⟩))(hs:bb P t=some 1)(hx:ρ x=v)(hv:cl v=[v])(hone:v.oneCell'=true)
  (k:∀h1,Own B h0 (f (some g,.cells ((aP s enc A R).set j v) false)) h1->K undef h1) :
  ∃(v:Value) (T:Heap->Prop),(∃h',cZ P ρ { dst:=d,op:=.store t a x,type:=ty,pos:=pos,after:=af,guard:=gd } h=some (v,h')/\T h')/\∀h1,T h1->K v h1:=by
 have hl:(aP s enc A R).length=R.length:=by unfold aP;rw[PD,ok.len,R2]
 have hj:=ai hr;refine O.store (l:=[v]) At1 ha hs (by rw[hx];exact hv) rfl (by rw[hl];omega) (by simp[hone]) ?_ k
 have hj2:j<(aP s enc A R).length:=by rw[hl];exact hj
 rw[Nu,PQ,Oa,if_pos hj2];unfold bJ;simp
theorem vm{t:TypeId}{a:Operand}{g:Nat}{ro:Bool}{r:List α}{b:Option Nat}(hg:h.get g=some (.cells (aP s enc A R) ro))(hb:A[j]?=some b)(hr:R[j]?=some r)(ha:ρ a=.pointer (some ⟨g,0+j*1,none⟩))(ht:iz P t=some false) :
  bp P ρ { dst:=d,op:=.load t a,type:=ty,pos:=pos,after:=af,guard:=gd } h=some (ak s b (r.map enc)) :=
 bw ha hg ht (by rw[Nu,PQ];exact uG hb hr)
theorem CodeS.Ab{c:Code}{e:Env}{K:X->Env->Heap->Prop}(O:Own B h0 L h){gl:Nat}{cs cs':List Value}{ro:Bool}{f2:Slot->List Slot}(A2:At (some gl,.cells cs ro) L f2)
  {t2 o2 n2 c2:Nat} {sp2:Option Nat} (ht2:Nat.blt t2 e.n=true) (hv2:e.get t2=.slice (some ⟨gl,o2,sp2⟩) n2 c2)
  (le:LLe h cs cs') (k:∀h,Own B h0 (f2 (some gl,.cells cs' ro)) h->CodeS P N c e h K):CodeS P N c e h K:=by
 have hg:=O.at A2.mem;have u:=Upd.upd (.cells cs' ro) (Heap.ai hg);have O1:=O.upd A2 u;refine⟨λhM hok=>?_⟩;obtain⟨x,e1,h1,hc,hk⟩:=(k _ O1).spec hM hok;refine⟨x,e1,h1,⟨⟨by have:=hc.1.1;rw[u.size] at this;exact this,hc.1.2⟩,λι w a H r=>?_⟩,hk⟩;obtain⟨l2,e2'⟩:=nD r (Mq ht2) hv2;have H3:=H.nk hg le;have S3:=Step.nk H e2' hg (cs':=cs');refine wp_mono (hc.2 ι w a H3 r) ?_;rintro x' a' w' ⟨rfl,ι',r',H',S⟩;exact⟨rfl,ι',r',H',S3.trans S⟩
theorem LLe.set{h:Heap}{cs:List Value}{i:Nat}{v v':Value}(hv:VLe h v v'):LLe h (cs.set i v) (cs.set i v'):=by
 refine⟨by simp,λk=>?_⟩;simp only[Mh,Mp];split
 .split
  .exact hv
  .exact VLe.refl _ _
 .exact VLe.refl _ _
theorem Own.Fq{a:Option Nat}{l:List α}{ro:Bool}(O:Own B h0 L h)(m:(a,.cells (ah (l.map enc)) ro)∈L)(hs:∀x:α,(cl (enc x)).length=s)(ha:a=none↔l=[]):VLe h (ib a (l.map enc)) (ak s a (l.map enc)):=by
 cases a with
 |none=>exact VLe.refl _ _
 |some g =>
  have hp:0<l.length:=by
   cases l with
   |nil=>have:=ha.2 rfl;cases this
   |cons x r=>simp
  have:=O.C3 m hs rfl hp;unfold ib;rw[LZ];exact this
theorem Own.FO{b n cap g:Nat}{sp:Option Nat}{h2:Heap}(O:Own B h0 (L++aS enc A R) h)(F:Frozen b h h2)(hb:b<=h0.size)(m:(some g,.cells (aP s enc A R) false)∈L)(ok:RowsOk A R)(hs:∀x:α,(cl (enc x)).length=s)(hn:n=R.length):VLe h2 (.slice (some ⟨g,0,sp⟩) n cap) (ae 1 (ae s enc) R):=by
 have hl:(aP s enc A R).length=R.length:=by unfold aP;rw[PD,ok.len,R2]
 have hfl:ah (R.map (ae s enc))=R.map (ae s enc):=by
  clear O m ok hl hn
  induction R with
  |nil=>rfl
  |cons r R ih=>rw[MM,jK,ih];rfl
 refine O.IY (es:=R.map (ae s enc)) F hb (MA _ m) (by rw[LZ];exact hn) (bE (s:=1) (λ_=>rfl) _) (by rw[hl,hn,PQ]) ?_;rw[hfl];refine⟨by rw[hl,LZ],λi=>?_⟩;by_cases c:i<R.length
 .have hr:R[i]?=some R[i]:=LU c
  have c2:i<A.length:=by rw[ok.len];exact c
  have ha:A[i]?=some A[i]:=LU c2;rw[Mh,Mh,uG ha hr,L7,hr];refine O.jP F hb (Nd _ (LS (kQ ha hr))) (ok.nil i _ _ hr ha).1 hs
 .rw[Mh,Mh,Mk (by rw[hl];omega),Mk (by rw[LZ];omega)];exact VLe.refl _ _
end
end Go.Abs
