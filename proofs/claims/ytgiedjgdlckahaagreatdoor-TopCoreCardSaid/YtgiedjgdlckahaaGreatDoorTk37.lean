/-
  AbsXz, AbsXa, AbsXd, AbsXc: parts of the proof.
-/
import Derived.Test.YtgiedjgdlckahaaGreatDoorTk36
namespace Go.Abs
def aV {α:Type} (s:Nat) (enc:α->Value) (l:List α):Value:=FC s (l.map enc)
section
variable {α:Type} {s:Nat} {enc:α->Value} {l:List α}
theorem F5 (p:∀ a,AllPure (cl (enc a))):PureV (aV s enc l):=fun ι ι' v' hf r=>by
 cases hl:l.map enc with
 |nil =>
  unfold aV FC at r ⊢;rw[hl] at r ⊢
  cases r with
  |fcNil _=>exact .fcNil s
  |fcEmpty _ a=>exact .fcEmpty s a
  |fc _ _ _ _ hne _=>exact absurd rfl hne
 |cons x xs =>
  unfold aV FC at r ⊢;rw[hl] at r ⊢
  cases r with
  |fc _ _ b o hne h =>
   refine .fc s _ b o hne ?_;have:=(PureV.list (s:=s) (l:=l) p) ι ι' _ hf (by unfold FL;rw[hl];exact h);unfold FL at this;rw[hl] at this;exact this
theorem VLe.HX (h:Heap) (s:Nat) (enc:α->Value):VLe h (.slice none 0 0) (aV s enc ([]:List α)):=fun _ _ _ _ _ r=>by
 cases r
 exact .fcNil s
theorem VLe.toC {h:Heap}{g o n:Nat} (a:VLe h (.slice (some ⟨g,o,none⟩) n n) (ah s enc l)) (hn:n=(l.map enc).length):VLe h (.slice (some ⟨g,o,none⟩) n n) (aV s enc l):=fun N ι w v' H r=>by
 have q:=a N ι w v' H r
 cases r with
 |slice _ _ _ _ o' lc hι _ _ =>
  cases e:l with
  |nil =>
   subst e;rw[hn];exact .fcEmpty s _
  |cons x xs =>
   rw[hn] at q ⊢;rw[<- e];exact .fc s _ _ _ (by rw[e];simp) q
theorem Own.HY {B:List AObj}{h0:Heap}{L:List Slot}{h h2:Heap}{b:Nat}{a:Option Nat}{ro:Bool} (O:Own B h0 L h) (F:Frozen b h h2) (hb:b<=h0.size) (m:(a,.cells (flatC (l.map enc)) ro)∈L) (ha:a=none->l=[]) (hs:∀ x:α,(cl (enc x)).length=s):VLe h2 (iW a (l.map enc)) (aV s enc l):=by
 have q:=O.B0 F hb m ha hs
 cases a with
 |none=>rw[ha rfl];exact VLe.HX _ _ _
 |some g=>exact VLe.toC q rfl
end
section
variable {P:Program} {ρ:Operand->Value} {d:Option Tmp} {ty:TypeId} {pos:String} {af:Array Edge} {gd:Option (Nat×Bool)}
variable {α:Type} {s:Nat} {enc:α->Value} {l:List α}
theorem lmC {t e:TypeId}{x:Operand}{K:Value->Prop} (hk:K (.int .i64 (Int.ofNat l.length))) (hx:ρ x=FC s (l.map enc):=by exact rfl) (hu:P.underlying t=some (.slice e):=by exact rfl) :
  ∃ v,aq P ρ { dst:=d,op:=.call { callee:=.builtin .len,args := #[x],argTypes := #[t] },type:=ty,pos:=pos,after:=af,guard:=gd }=some v/\K v:=by
 refine⟨_,?_,hk⟩;unfold aq;have e2:(#[t][0]?).bind P.underlying=some (.slice e):=hu;simp only[e2,List.map_cons,List.map_nil,hx,FC,List.length_map];rfl
theorem atC {j:Nat}{t e:TypeId}{x i:Operand}{kk:IntKind}{W:α->Prop}{K:Value->Prop} (hm:∃ x,l[j]?=some x/\W x) (k:∀ x,l[j]?=some x->W x->K (FP (enc x)))
  (hx:ρ x=FC s (l.map enc):=by exact rfl) (hi:ρ i=.int kk (Int.ofNat j):=by exact rfl) (hu:P.underlying t=some (.slice e):=by exact rfl) (hs:aQ P e=some s:=by exact rfl) :
  ∃ v,aq P ρ { dst:=d,op:=.indexAddr t x i,type:=ty,pos:=pos,after:=af,guard:=gd }=some v/\K v:=by
 obtain⟨y,h1,h2⟩:=hm;refine⟨_,?_,k y h1 h2⟩;unfold aq;have hb:Nat.beq s s=true:=Nat.beq_refl s;simp only[hu,hx,hi,hs,FC,hb,get_map (enc:=enc) h1]
end
section
variable {P:Program} {N:Nat} {B:List AObj} {h0 h:Heap} {L:List Slot}
end
end Go.Abs

namespace Go.Abs
section
variable {P:Program} {ρ:Operand->Value} {d:Option Tmp} {ty:TypeId} {pos:String} {af:Array Edge} {gd:Option (Nat×Bool)}
theorem Jt {t yt:TypeId}{x y:Operand}{a b:Int}{j:Nat} (hx:ρ x=.int .i64 a) (hy:ρ y=.int .i64 b) (hz:a+b=Int.ofNat j) (hj:j<2 ^ 63) :
  aq P ρ { dst:=d,op:=.binOp .add t x y yt,type:=ty,pos:=pos,after:=af,guard:=gd }=some (.int .i64 (Int.ofNat j)):=by
 have h1:a+b=(j:Int):=hz;have:=Jn (P:=P) (d:=d) (ty:=ty) (pos:=pos) (af:=af) (gd:=gd) (t:=t) (yt:=yt) hx hy (by omega) (by omega);rw[this,hz]
end
section
variable {B:List AObj} {h0 h:Heap} {S T:List Slot} {p:Slot} {j:Nat}
theorem Own.GN (O:Own B h0 (S++T) h) (hp:T[j]?=some p) (o:AObj):Own B h0 (p::(S++T.set j (none,o))) h:=by
 obtain⟨e1,e2⟩:=jJ hp (none,o);rw[e2];rw[e1,<- List.append_assoc] at O;have O2:=O.perm List.perm_middle;have:=Own.sU (X:=p::(S++T.take j)) (Z:=T.drop (j+1)) (by simpa using O2) o;simpa[List.append_assoc] using this
theorem Own.Js {o:AObj} (O:Own B h0 (p::(S++T.set j (none,o))) h) (hj:j<T.length):Own B h0 (S++T.set j p) h:=by
 have ht:=List.getElem?_eq_getElem hj;rw[(jJ ht (none,o)).2] at O;rw[(jJ ht p).2,<- List.append_assoc];refine Own.perm (L:=p::(S++T.take j++T.drop (j+1))) ?_ List.perm_middle.symm
 have:Own B h0 ((p::(S++T.take j))++(none,o)::T.drop (j+1)) h:=by simpa[List.append_assoc] using O
 simpa using this.F7
inductive Rw where
 |own (a:Option Nat) (r:List Nat)
 |cut (a:Option Nat) (r:List Nat)
 |fz (r:List Nat)
def Rw.val:Rw->List Nat
 |.own _ r=>r
 |.cut _ r=>r
 |.fz r=>r
def dZ:Rw->Value
 |.own a r=>ae 1 a (r.map i64)
 |.cut a r=>iW a (r.map i64)
 |.fz r=>aV 1 i64 r
def gU:Rw->Slot
 |.own a r=>(a,.cells (flatC (r.map i64)) false)
 |.cut a r=>(a,.cells (flatC (r.map i64)) false)
 |.fz _=>(none,.dead)
theorem ln (x:Rw):cl (dZ x)=[dZ x]:=by cases x <;> rfl
theorem Ec (X:List Rw):flatC (X.map dZ)=X.map dZ:=by
 induction X with
 |nil=>rfl
 |cons x X ih=>rw[List.map_cons,fF,ih,ln];rfl
theorem VLe.Hr {h:Heap}{g:Nat}{r:List Nat} (hg:h.get g=some (.cells (flatC (r.map i64)) true)):VLe h (iW (some g) (r.map i64)) (aV 1 i64 r):=by
 have hs:∀ e∈r.map i64,(cl e).length=1:=fun e m=>by
  obtain⟨x,_,rfl⟩:=List.mem_map.1 m;rfl
 have hl:=ba hs;exact VLe.toC (VLe.fl (off:=0) hg rfl hs (by rw[hl];omega) (by rw[List.drop_zero,List.take_of_length_le (by rw[hl];exact Nat.le_refl _)];exact LLe.refl _ _)) rfl
theorem Own.fst (O:Own B h0 (S++T) h):Own B h0 S h:=O.sub (fun _ m=>List.mem_append_left _ m) (List.pairwise_append.1 O.apart).1
theorem Own.newRow {X:List Rw} (O:Own B h0 (S++X.map gU) h):Own B h0 (S++(X++[Rw.own none []]).map gU) h:=by
 have:=Own.sU (X:=S++X.map gU) (Z:=[]) (by simpa using O) (.cells (flatC (([]:List Nat).map i64)) false);simpa[gU,List.append_assoc] using this
theorem Own.B2 {X:List Rw}{a:Option Nat}{r:List Nat} (O:Own B h0 (S++X.map gU) h) (hx:X[j]?=some (.own a r)):Own B h0 ((a,.cells (flatC (r.map i64)) false)::(S++(X.set j (.fz r)).map gU)) h:=by
 have:=O.GN (j:=j) (p:=gU (.own a r)) (by rw[List.getElem?_map,hx];rfl) .dead;rw[List.map_set];exact this
theorem Own.putRow {X:List Rw}{x:Rw}{a:Option Nat}{r r':List Nat} (O:Own B h0 ((a,.cells (flatC (r'.map i64)) false)::(S++(X.set j (.fz r)).map gU)) h) (hx:X[j]?=some x):Own B h0 (S++(X.set j (.own a r')).map gU) h:=by
 rw[List.map_set] at O ⊢;exact Own.Js (p:=gU (.own a r')) (o:=.dead) O (by rw[List.length_map];exact ag hx)
end
end Go.Abs

namespace Go.Abs
theorem CodeS.Il {P:Program}{N:Nat}{h:Heap}{c:Code}{e:Env}{K:X->Env->Heap->Prop}{t:Nat}{v:Value} (ht:Nat.blt t e.n=true) (le:VLe h (e.get t) v)
  (k:nX e (some t) v fun e=>CodeS P N c e h K):CodeS P N c e h K:=by
 refine⟨fun hM hok=>?_⟩;obtain⟨x,e1,h1,hc,hk⟩:=(fC.1 k).spec hM (by rw[Env.gJ];exact hok);refine⟨x,e1,h1,⟨⟨hc.1.1,by rw[hc.1.2,Env.gJ]⟩,fun ι w a H r=>?_⟩,hk⟩
 have r5:ERel ι (e.put (some t) v) a:=⟨r.defers,by rw[Env.gJ];exact r.size,fun j hj=>by
  rw[Env.gJ] at hj;have:=r.get j hj
  show VRel ι ((e.set t v).get j) _
  rw[Env.dq];by_cases q:j=t
  ·subst q;rw[if_pos rfl];exact le N ι w _ H this
  ·rw[if_neg q];exact this⟩
 exact hc.2 ι w a H r5
end Go.Abs

namespace Go.Abs
section
variable {P:Program} {ρ:Operand->Value} {d:Option Tmp} {ty:TypeId} {pos:String} {af:Array Edge} {gd:Option (Nat×Bool)} {B:List AObj} {h0 h:Heap} {L:List Slot}
theorem Own.Bp {α:Type}{enc:α->Value}{l:List α}{z:α}{td te:TypeId}{x:Operand}{s g o n cap off:Nat}{sp:Option Nat}{f:Slot->List Slot}{K:Value->Heap->Prop} (O:Own B h0 L h) (A:At (some g,.cells (flatC (l.map enc)) false) L f)
  (hts:P.underlying td=some (.slice te)) (hz:zeroOf P te=some (enc z)) (hz1:(enc z).cells.size=s) (hp:(enc z).cells.all aJ=true) (hoff:off=0+o*s) (hx:ρ x=.slice (some ⟨g,off,sp⟩) n cap) (hsz:∀ x:α,(cl (enc x)).length=s) (hpos:0<s) (hone:∀ x:α,(cl (enc x)).all Value.oneCell'=true)
  (hlim:o+n<=l.length) (k:∀ h1,Own B h0 (f (some g,.cells (flatC ((l.take o++(List.replicate n z++l.drop (o+n))).map enc)) false)) h1->K (.tuple #[]) h1) :
  ∃ (v:Value) (T:Heap->Prop),(∃ h',dp P ρ { dst:=d,op:=.call { callee:=.builtin .clear,args := #[x],argTypes := #[td] },type:=ty,pos:=pos,after:=af,guard:=gd } h=some (v,h')/\T h')/\∀ h1,T h1->K v h1:=by
 subst hoff;unfold dp fO;simp only[List.map_cons,List.map_nil,hx,hts,hz,hp,if_true];rw[hz1,wP hz1 hpos,<- List.map_replicate];unfold kr;by_cases hn:n=0
 ·subst hn;rw[if_pos rfl];refine⟨_,fun h1=>h1=h,⟨h,rfl,rfl⟩,fun h1 q=>?_⟩;subst q;refine k h1 ?_
  have e:l.take o++(List.replicate 0 z++l.drop (o+0))=l:=by simp
  rw[e,A.same];exact O
 ·rw[if_neg hn];obtain⟨hgs,hgg⟩:=O.get g _ A.mem;simp only[hgg]
  have hle:0+o*s+(flatC ((List.replicate n z).map enc)).length<=(flatC (l.map enc)).length:=by
   rw[aX hsz,aX hsz,List.length_replicate];have:(o+n)*s<=l.length*s:=Nat.mul_le_mul_right s hlim;rw[Nat.add_mul] at this;omega
  rw[if_pos ⟨hle,xW hone _⟩,lC hsz l o (List.replicate n z) (by rw[List.length_replicate];exact hlim),List.length_replicate];have u:=Upd.upd (h:=h) (g:=g) (.cells (flatC ((l.take o++(List.replicate n z++l.drop (o+n))).map enc)) false) (Heap.ag hgg);exact⟨_,fun h1=>Own B h0 (f (some g,.cells (flatC ((l.take o++(List.replicate n z++l.drop (o+n))).map enc)) false)) h1,⟨_,rfl,O.upd A u⟩,fun h1 q=>k h1 q⟩
theorem Ii {α:Type}{enc:α->Value}{t e:TypeId}{x lo hi:Operand}{s i j:Nat}{l:List α}{kk kk':IntKind}{K:Value->Prop} (h1:i<=j) (h2:j<=l.length) (hk:K (FL s (((l.take j).drop i).map enc)))
  (hu:P.underlying t=some (.slice e):=by exact rfl) (hs:aQ P e=some s:=by exact rfl) (hx:ρ x=FL s (l.map enc):=by exact rfl) (hlo:ρ lo=.int kk (Int.ofNat i):=by exact rfl) (hhi:ρ hi=.int kk' (Int.ofNat j):=by exact rfl) :
  ∃ v,aq P ρ { dst:=d,op:=.slice t x (some lo) (some hi) none,type:=ty,pos:=pos,after:=af,guard:=gd }=some v/\K v:=by
 refine⟨_,?_,hk⟩;have hb:Nat.beq s s=true:=Nat.beq_refl s;unfold aq;simp only[hu,hx,FL,hs,Option.map_some,Option.map_none,hlo,hhi,List.length_map];unfold fa;simp only[Cq kk' h2,Cq kk h1,hb];rw[List.map_drop,List.map_take,List.drop_take]
def lZ (s:Nat) (a:Option Nat) (n m:Nat):Value:=.slice (a.map fun g=>⟨g,0,some s⟩) n m
def EL (a:Option Nat) (n:Nat):Value:=.slice (a.map fun g=>⟨g,0,none⟩) n n
theorem Ff {t e:TypeId}{x hi mx:Operand}{s n m:Nat}{a:Option Nat}{kk kk':IntKind}{K:Value->Prop} (hn:n<=m) (hk:K (EL a n))
  (hu:P.underlying t=some (.slice e):=by exact rfl) (hs:aQ P e=some s:=by exact rfl) (hx:ρ x=lZ s a n m:=by exact rfl) (hhi:ρ hi=.int kk (Int.ofNat n):=by exact rfl) (hmx:ρ mx=.int kk' (Int.ofNat n):=by exact rfl) :
  ∃ v,aq P ρ { dst:=d,op:=.slice t x none (some hi) (some mx),type:=ty,pos:=pos,after:=af,guard:=gd }=some v/\K v:=by
 refine⟨_,?_,hk⟩;have h1:∀ q,bnd (.int q (Int.ofNat n)) n=some n:=fun q=>if_pos ⟨Int.natCast_nonneg _,Int.ofNat_le.2 (Nat.le_refl _)⟩;have h2:∀ q,bnd (.int q (Int.ofNat n)) m=some n:=fun q=>if_pos ⟨Int.natCast_nonneg _,Int.ofNat_le.2 hn⟩;unfold aq;simp only[hu,hx,lZ,hs,Option.map_some,Option.map_none,hhi,hmx];unfold fa;simp only[h1,h2]
 cases a with
 |none=>simp[EL]
 |some g=>simp[EL]
theorem qb {t e:TypeId}{x lo:Operand}{g off s n cap:Nat} (m:Nat) {kk:IntKind}{K:Value->Prop} (hm:m<=n) (hk:K (.slice (some ⟨g,off+m*s,some s⟩) (n-m) (cap-m)))
  (hu:P.underlying t=some (.slice e):=by exact rfl) (hs:aQ P e=some s:=by exact rfl) (hx:ρ x=.slice (some ⟨g,off,some s⟩) n cap:=by exact rfl) (hh:ρ lo=.int kk (Int.ofNat m):=by exact rfl) :
  ∃ v,aq P ρ { dst:=d,op:=.slice t x (some lo) none none,type:=ty,pos:=pos,after:=af,guard:=gd }=some v/\K v:=by
 refine⟨_,?_,hk⟩;unfold aq
 have hb:fa n cap (some (.int kk (Int.ofNat m))) none none=some (m,n,cap):=by
  unfold fa;simp only[yy hm]
 simp only[hu,hx,hs,Option.map_some,Option.map_none,hh,hb,if_true]
theorem Bk {t e:TypeId}{x hi:Operand}{g s n cap:Nat} (m:Nat) {kk:IntKind}{K:Value->Prop} (hm:m<=cap) (hk:K (lZ s (some g) m cap))
  (hu:P.underlying t=some (.slice e):=by exact rfl) (hs:aQ P e=some s:=by exact rfl) (hx:ρ x=.slice (some ⟨g,0,some s⟩) n cap:=by exact rfl) (hh:ρ hi=.int kk (Int.ofNat m):=by exact rfl) :
  ∃ v,aq P ρ { dst:=d,op:=.slice t x none (some hi) none,type:=ty,pos:=pos,after:=af,guard:=gd }=some v/\K v:=by
 have e0:0+0*s=0:=by omega
 refine⟨_,?_,hk⟩;unfold aq
 have hb:fa n cap none (some (.int kk (Int.ofNat m))) none=some (0,m,cap):=by
  unfold fa;simp only[yy hm]
 simp only[hu,hx,hs,Option.map_some,Option.map_none,hh,hb,e0,Nat.sub_zero,if_true];rfl
theorem ixW (s:Nat) {g o n cap j:Nat}{sp:Option Nat}{t e:TypeId}{x i:Operand}{kk:IntKind}{K:Value->Prop} (hj:j<n) (k:K (.pointer (some ⟨g,0+(o+j)*s,none⟩)))
  (hx:ρ x=.slice (some ⟨g,0+o*s,sp⟩) n cap:=by exact rfl) (hi:ρ i=.int kk (Int.ofNat j):=by exact rfl) (hu:P.underlying t=some (.slice e):=by exact rfl) (hs:aQ P e=some s:=by exact rfl) :
  ∃ v,aq P ρ { dst:=d,op:=.indexAddr t x i,type:=ty,pos:=pos,after:=af,guard:=gd }=some v/\K v:=by
 refine bb hu hs hx hi hj ?_;rw[Nat.add_mul,<- Nat.add_assoc] at k;exact k
end
theorem mE {β:Type}{l:List β}{j:Nat}{x:β} (h:l[j]?=some x):l.set j x=l:=by
 obtain⟨h1,rfl⟩:=List.getElem?_eq_some_iff.1 h;exact List.set_getElem_self h1
theorem CodeS.Hy {P:Program}{N:Nat}{B:List AObj}{h0 h:Heap}{L:List Slot}{c:Code}{e:Env}{K:X->Env->Heap->Prop}{α:Type}{enc:α->Value}{l z:List α}{s:Nat}{a:Option Nat}{ro:Bool}{f:Slot->List Slot}
  (O:Own B h0 L h) (A:At (a,.cells (flatC ((l++z).map enc)) ro) L f) (ha:a=none->l=[]) (hs:∀ x:α,(cl (enc x)).length=s) {t:Nat} (ht:Nat.blt t e.n=true) (hv:e.get t=EL a l.length)
  (k:∀ h,Own B h0 (f (a,.cells (flatC ((l++z).map enc)) true)) h->nX e (some t) (ah s enc l) fun e=>CodeS P N c e h K):CodeS P N c e h K:=by
 cases a with
 |none =>
  have e1:=ha rfl;subst e1;refine .Il ht ?_ (k _ (O.BT A));rw[hv];exact VLe.nil _ _
 |some g =>
  have hg:=O.at A.mem;have u:=Upd.upd (.cells (flatC ((l++z).map enc)) true) (Heap.ag hg);have O1:=O.upd A u
  have k1:CodeS P N c e (h.upd g (.cells (flatC ((l++z).map enc)) true)) K:=by
   refine .Il ht ?_ (k _ O1);rw[hv];have e:=qA (enc:=enc) hs (l++z) 0 l.length (by rw[List.length_append];omega);rw[List.drop_zero,List.take_left,Nat.zero_mul,Nat.add_zero] at e;refine VLe.fl u.get (by rw[List.length_map]) (aZ hs _) (by rw[aX hs,List.length_append,Nat.add_mul];omega) ?_;rw[e];exact LLe.refl _ _
  refine⟨fun hM hok=>?_⟩;obtain⟨x,e1,h1,hc,hk⟩:=k1.spec hM hok;refine⟨x,e1,h1,⟨⟨by have:=hc.1.1;rw[u.size] at this;exact this,hc.1.2⟩,fun ι w a H r=>?_⟩,hk⟩;obtain⟨l1,e1'⟩:=jt r (Nat.le_of_ble_eq_true ht) hv;obtain⟨ι2,H2,S2⟩:=jW H e1' hg;refine wp_mono (hc.2 ι2 w a H2 (r.mono S2.ext)) ?_;rintro x' a' w' ⟨rfl,ι',r',H',S⟩;exact⟨rfl,ι',r',H',S2.trans S⟩
end Go.Abs
