/-
  AbsXs: parts of the proof.
-/
import Derived.Test.YtgiedjgdlckahaaGreatDoorTk29
namespace Go.Abs
theorem mR {α β γ:Type} (f:α->β->γ):∀ (l:List α) (m:List β) (j:Nat) (x:α) (y:β),List.zipWith f (l.set j x) (m.set j y)=(List.zipWith f l m).set j (f x y)
 |[],m,j,x,y=>by simp
 |_::_,[],j,x,y=>by simp
 |a::l,b::m,0,x,y=>rfl
 |a::l,b::m,j+1,x,y=>by
  show _::_=_::_
  rw[mR f l m j x y]
section
variable {α:Type} {enc:α->Value} {s j:Nat} {A:List (Option Nat)} {R:List (List α)}
def aw (s:Nat) (enc:α->Value) (A:List (Option Nat)) (R:List (List α)):List Value:=List.zipWith (fun a r=>ae s a (r.map enc)) A R
def aC (enc:α->Value) (A:List (Option Nat)) (R:List (List α)):List Slot:=List.zipWith (fun a r=>(a,AObj.cells (flatC (r.map enc)) false)) A R
structure RowsOk (A:List (Option Nat)) (R:List (List α)):Prop where
 len:A.length=R.length
 nil:∀ (j:Nat) (r:List α) (a:Option Nat),R[j]?=some r->A[j]?=some a->(a=none↔r=[])
theorem jD {a:Option Nat}{r:List α} (ha:A[j]?=some a) (hr:R[j]?=some r):(aC enc A R)[j]?=some (a,.cells (flatC (r.map enc)) false):=by
 unfold aC;rw[List.getElem?_zipWith,ha,hr]
theorem sj {a:Option Nat}{r:List α} (ha:A[j]?=some a) (hr:R[j]?=some r):(aw s enc A R)[j]?=some (ae s a (r.map enc)):=by
 unfold aw;rw[List.getElem?_zipWith,ha,hr]
theorem lX {a:Option Nat}{r:List α}:aC enc (A.set j a) (R.set j r)=(aC enc A R).set j (a,.cells (flatC (r.map enc)) false):=by
 unfold aC;rw[mR]
theorem iS {a:Option Nat}{r:List α}:aw s enc (A.set j a) (R.set j r)=(aw s enc A R).set j (ae s a (r.map enc)):=by
 unfold aw;rw[mR]
theorem iJ {r:List α} (hr:R[j]?=some r):R.set j r=R:=by
 obtain⟨h,rfl⟩:=List.getElem?_eq_some_iff.1 hr;exact List.set_getElem_self h
theorem RowsOk.set (ok:RowsOk A R) {a:Option Nat}{r:List α} (h:a=none↔r=[]):RowsOk (A.set j a) (R.set j r):=by
 refine⟨by rw[List.length_set,List.length_set];exact ok.len,fun i r' a' h1 h2=>?_⟩;rw[List.getElem?_set] at h1 h2;by_cases c:j=i
 ·rw[if_pos c] at h1 h2;split at h1
  ·cases h1
   split at h2
   ·cases h2;exact h
   ·cases h2
  ·cases h1
 ·rw[if_neg c] at h1 h2;exact ok.nil i r' a' h1 h2
theorem RowsOk.start (n:Nat):RowsOk (List.replicate n none) (List.replicate n ([]:List α)):=by
 refine⟨by simp,fun j r a h1 h2=>?_⟩;rw[List.getElem?_replicate] at h1 h2;split at h1
 ·rename_i c;rw[if_pos c] at h2
  cases h1;cases h2
  simp
 ·cases h1
theorem vz (n:Nat):aw s enc (List.replicate n none) (List.replicate n ([]:List α))=List.replicate n (.slice none 0 0):=by
 unfold aw;rw[List.zipWith_replicate];simp[ae]
theorem jJ {β:Type}{l:List β}{x:β}{i:Nat} (hx:l[i]?=some x) (y:β):l=l.take i++x::l.drop (i+1)/\l.set i y=l.take i++y::l.drop (i+1):=by
 obtain⟨h,rfl⟩:=List.getElem?_eq_some_iff.1 hx;exact⟨by rw[List.getElem_cons_drop,List.take_append_drop],by rw[List.set_eq_take_append_cons_drop,if_pos h]⟩
end
section
variable {P:Program} {ρ:Operand->Value} {d:Option Tmp} {ty:TypeId} {pos:String} {af:Array Edge} {gd:Option (Nat×Bool)}
variable {N:Nat} {B:List AObj} {h0 h:Heap} {L S:List Slot} {α:Type} {enc:α->Value} {s j:Nat} {A:List (Option Nat)} {R:List (List α)}
theorem Apart.symm {p q:Slot} (a:Apart p q):Apart q p:=fun g e e'=>a g e' e
theorem Own.perm {L':List Slot} (O:Own B h0 L h) (hp:L.Perm L'):Own B h0 L' h :=
 O.sub (fun _ m=>hp.mem_iff.2 m) ((hp.pairwise_iff (fun a=>Apart.symm a)).1 O.apart)
theorem Own.sU {X Z:List Slot} (O:Own B h0 (X++Z) h) (o:AObj):Own B h0 (X++(none,o)::Z) h :=
 (O.bC o).perm List.perm_middle.symm
theorem Own.F7 {X Z:List Slot}{p:Slot} (O:Own B h0 (X++p::Z) h):Own B h0 (X++Z) h :=
 (O.perm List.perm_middle).tail
theorem Own.Jd (O:Own B h0 L h) (n:Nat):Own B h0 (L++aC enc (List.replicate n none) (List.replicate n ([]:List α))) h:=by
 induction n with
 |zero=>simpa[aC] using O
 |succ n ih =>
  have:aC enc (List.replicate (n+1) none) (List.replicate (n+1) ([]:List α))=(none,.cells (flatC (([]:List α).map enc)) false)::aC enc (List.replicate n none) (List.replicate n []):=rfl;rw[this];exact ih.sU _
theorem Own.focus (ok:RowsOk A R) (O:Own B h0 (S++aC enc A R) h) {r:List α} (hr:R[j]?=some r):∃ a,A[j]?=some a/\(a=none↔r=[])/\Own B h0 ((a,.cells (flatC (r.map enc)) false)::(S++aC enc (A.set j none) R)) h:=by
 have hj:j<A.length:=by rw[ok.len];exact ag hr
 have ha:A[j]?=some A[j]:=List.getElem?_eq_getElem hj;refine⟨A[j],ha,ok.nil j r _ hr ha,?_⟩;obtain⟨e1,e2⟩:=jJ (jD (enc:=enc) ha hr) (none,.cells (flatC (r.map enc)) false)
 have e3:aC enc (A.set j none) R=(aC enc A R).set j (none,.cells (flatC (r.map enc)) false):=by
  conv=>lhs;rw[<- iJ hr]
  exact lX
 rw[e3,e2];rw[e1,<- List.append_assoc] at O;have O2:=O.perm List.perm_middle;have:=Own.sU (X:=(A[j],.cells (flatC (r.map enc)) false)::(S++(aC enc A R).take j)) (Z:=(aC enc A R).drop (j+1)) (by simpa using O2) (.cells (flatC (r.map enc)) false);simpa[List.append_assoc] using this
theorem Own.nQ {a:Option Nat}{r r':List α} (O:Own B h0 ((a,.cells (flatC (r'.map enc)) false)::(S++aC enc (A.set j none) R)) h) (hr:R[j]?=some r) (ok:RowsOk A R):Own B h0 (S++aC enc (A.set j a) (R.set j r')) h:=by
 have hj:j<A.length:=by rw[ok.len];exact ag hr
 have ha:A[j]?=some A[j]:=List.getElem?_eq_getElem hj;obtain⟨e1,e2⟩:=jJ (jD (enc:=enc) ha hr) (none,.cells (flatC (r.map enc)) false)
 have e3:aC enc (A.set j none) R=(aC enc A R).set j (none,.cells (flatC (r.map enc)) false):=by
  conv=>lhs;rw[<- iJ hr]
  exact lX
 rw[e3,e2] at O;rw[lX,(jJ (jD (enc:=enc) ha hr) _).2,<- List.append_assoc];refine Own.perm (L:=(a,.cells (flatC (r'.map enc)) false)::(S++(aC enc A R).take j++(aC enc A R).drop (j+1))) ?_ List.perm_middle.symm
 have:Own B h0 (((a,.cells (flatC (r'.map enc)) false)::(S++(aC enc A R).take j))++(none,.cells (flatC (r.map enc)) false)::(aC enc A R).drop (j+1)) h:=by simpa[List.append_assoc] using O
 simpa using this.F7
theorem Own.vd {t e:TypeId}{x y:Operand}{n b:Nat}{K:Value->Heap->Prop} (enc:α->Value) (s:Nat) (O:Own B h0 L h) (hu:P.underlying t=some (.slice e)) (hs:aQ P e=some 1) (hb:kJ P e=some b) (hz:zeroOf P e=some (.slice none 0 0))
  (hx:ρ x=.int .i64 (Int.ofNat n)) (hy:ρ y=.int .i64 (Int.ofNat n)) (hn:b*n<=2 ^ 48) (hn2:n<2 ^ 63)
  (k:∀ g h1,Own B h0 ((some g,.cells (aw s enc (List.replicate n none) (List.replicate n ([]:List α))) false)::(L++aC enc (List.replicate n none) (List.replicate n ([]:List α)))) h1->K (.slice (some ⟨g,0,none⟩) n n) h1) :
  NewG P ρ { dst:=d,op:=.makeSlice t x y,type:=ty,pos:=pos,after:=af,guard:=gd } h K:=by
 refine O.new (Jg hu hs hb hz rfl rfl hx hy hn hn2) fun g h1 O=>k g h1 ?_;rw[vz];exact O.Jd n
theorem Own.tW {t:TypeId}{a x:Operand}{g:Nat}{f:Slot->List Slot}{K:Value->Heap->Prop}{r:List α}{v:Value} (O:Own B h0 L h) (At1:At (some g,.cells (aw s enc A R) false) L f) (ok:RowsOk A R) (hr:R[j]?=some r) (ha:ρ a=.pointer (some ⟨g,0+j*1,none⟩)) (hs:aQ P t=some 1) (hx:ρ x=v) (hv:cl v=[v]) (hone:v.oneCell'=true)
  (k:∀ h1,Own B h0 (f (some g,.cells ((aw s enc A R).set j v) false)) h1->K undef h1) :
  ∃ (v:Value) (T:Heap->Prop),(∃ h',dp P ρ { dst:=d,op:=.store t a x,type:=ty,pos:=pos,after:=af,guard:=gd } h=some (v,h')/\T h')/\∀ h1,T h1->K v h1:=by
 have hl:(aw s enc A R).length=R.length:=by unfold aw;rw[List.length_zipWith,ok.len,Nat.min_self]
 have hj:=ag hr;refine O.store (l:=[v]) At1 ha hs (by rw[hx];exact hv) rfl (by rw[hl];omega) (by simp[hone]) ?_ k
 have hj2:j<(aw s enc A R).length:=by rw[hl];exact hj
 rw[Nat.zero_add,Nat.mul_one,List.set_eq_take_append_cons_drop,if_pos hj2];unfold bp;simp
theorem nL {t:TypeId}{a:Operand}{g:Nat}{ro:Bool}{r:List α}{b:Option Nat} (hg:h.get g=some (.cells (aw s enc A R) ro)) (hb:A[j]?=some b) (hr:R[j]?=some r) (ha:ρ a=.pointer (some ⟨g,0+j*1,none⟩)) (ht:fB P t=some false) :
  aT P ρ { dst:=d,op:=.load t a,type:=ty,pos:=pos,after:=af,guard:=gd } h=some (ae s b (r.map enc)) :=
 bz ha hg ht (by rw[Nat.zero_add,Nat.mul_one];exact sj hb hr)
theorem CodeS.xF {c:Code}{e:Env}{K:X->Env->Heap->Prop} (O:Own B h0 L h) {gl:Nat}{cs cs':List Value}{ro:Bool}{f2:Slot->List Slot} (A2:At (some gl,.cells cs ro) L f2)
  {t2 o2 n2 c2:Nat} {sp2:Option Nat} (ht2:Nat.blt t2 e.n=true) (hv2:e.get t2=.slice (some ⟨gl,o2,sp2⟩) n2 c2)
  (le:LLe h cs cs') (k:∀ h,Own B h0 (f2 (some gl,.cells cs' ro)) h->CodeS P N c e h K):CodeS P N c e h K:=by
 have hg:=O.at A2.mem;have u:=Upd.upd (.cells cs' ro) (Heap.ag hg);have O1:=O.upd A2 u;refine⟨fun hM hok=>?_⟩;obtain⟨x,e1,h1,hc,hk⟩:=(k _ O1).spec hM hok;refine⟨x,e1,h1,⟨⟨by have:=hc.1.1;rw[u.size] at this;exact this,hc.1.2⟩,fun ι w a H r=>?_⟩,hk⟩;obtain⟨l2,e2'⟩:=jt r (Nat.le_of_ble_eq_true ht2) hv2;have H3:=H.qg hg le;have S3:=Step.qg H e2' hg (cs':=cs');refine wp_mono (hc.2 ι w a H3 r) ?_;rintro x' a' w' ⟨rfl,ι',r',H',S⟩;exact⟨rfl,ι',r',H',S3.trans S⟩
theorem LLe.set {h:Heap}{cs:List Value}{i:Nat}{v v':Value} (hv:VLe h v v'):LLe h (cs.set i v) (cs.set i v'):=by
 refine⟨by simp,fun k=>?_⟩;simp only[List.getD,List.getElem?_set];split
 ·split
  ·exact hv
  ·exact VLe.refl _ _
 ·exact VLe.refl _ _
theorem Own.Gk {a:Option Nat}{l:List α}{ro:Bool} (O:Own B h0 L h) (m:(a,.cells (flatC (l.map enc)) ro)∈L) (hs:∀ x:α,(cl (enc x)).length=s) (ha:a=none↔l=[]):VLe h (iW a (l.map enc)) (ae s a (l.map enc)):=by
 cases a with
 |none=>exact VLe.refl _ _
 |some g =>
  have hp:0<l.length:=by
   cases l with
   |nil=>have:=ha.2 rfl;cases this
   |cons x r=>simp
  have:=O.AV m hs rfl hp;unfold iW;rw[List.length_map];exact this
theorem Own.FW {b n cap g:Nat}{sp:Option Nat}{h2:Heap} (O:Own B h0 (L++aC enc A R) h) (F:Frozen b h h2) (hb:b<=h0.size) (m:(some g,.cells (aw s enc A R) false)∈L) (ok:RowsOk A R) (hs:∀ x:α,(cl (enc x)).length=s) (hn:n=R.length):VLe h2 (.slice (some ⟨g,0,sp⟩) n cap) (ah 1 (ah s enc) R):=by
 have hl:(aw s enc A R).length=R.length:=by unfold aw;rw[List.length_zipWith,ok.len,Nat.min_self]
 have hfl:flatC (R.map (ah s enc))=R.map (ah s enc):=by
  clear O m ok hl hn
  induction R with
  |nil=>rfl
  |cons r R ih=>rw[List.map_cons,fF,ih];rfl
 refine O.B9 (es:=R.map (ah s enc)) F hb (List.mem_append_left _ m) (by rw[List.length_map];exact hn) (aZ (s:=1) (fun _=>rfl) _) (by rw[hl,hn,Nat.mul_one]) ?_;rw[hfl];refine⟨by rw[hl,List.length_map],fun i=>?_⟩;by_cases c:i<R.length
 ·have hr:R[i]?=some R[i]:=List.getElem?_eq_getElem c
  have c2:i<A.length:=by rw[ok.len];exact c
  have ha:A[i]?=some A[i]:=List.getElem?_eq_getElem c2;rw[List.getD,List.getD,sj ha hr,List.getElem?_map,hr];refine O.jR F hb (List.mem_append_right _ (List.mem_of_getElem? (jD ha hr))) (ok.nil i _ _ hr ha).1 hs
 ·rw[List.getD,List.getD,List.getElem?_eq_none (by rw[hl];omega),List.getElem?_eq_none (by rw[List.length_map];omega)];exact VLe.refl _ _
end
end Go.Abs
