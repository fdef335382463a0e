/-
  AbsXc: parts of the proof.
-/
import Derived.Test.YtobphhjcadjfjaaDoorSg41
namespace Go.Abs
section
variable {P:Program} {ρ:Operand->Value} {d:Option Tmp} {ty:TypeId} {pos:String} {af:Array Edge} {gd:Option (Nat×Bool)} {B:List AObj} {h0 h:Heap} {L:List Slot}
theorem Own.Az {α:Type}{enc:α->Value}{l:List α}{z:α}{td te:TypeId}{x:Operand}{s g o n cap off:Nat}{sp:Option Nat}{f:Slot->List Slot}{K:Value->Heap->Prop} (O:Own B h0 L h) (A:At (some g,.cells (flatC (l.map enc)) false) L f)
  (hts:P.underlying td=some (.slice te)) (hz:zeroOf P te=some (enc z)) (hz1:(enc z).cells.size=s) (hp:(enc z).cells.all aF=true) (hoff:off=0+o*s) (hx:ρ x=.slice (some ⟨g,off,sp⟩) n cap) (hsz:∀ x:α,(cl (enc x)).length=s) (hpos:0<s) (hone:∀ x:α,(cl (enc x)).all Value.oneCell'=true)
  (hlim:o+n<=l.length) (k:∀ h1,Own B h0 (f (some g,.cells (flatC ((l.take o++(List.replicate n z++l.drop (o+n))).map enc)) false)) h1->K (.tuple #[]) h1) :
  ∃ (v:Value) (T:Heap->Prop),(∃ h',da P ρ { dst:=d,op:=.call { callee:=.builtin .clear,args := #[x],argTypes := #[td] },type:=ty,pos:=pos,after:=af,guard:=gd } h=some (v,h')/\T h')/\∀ h1,T h1->K v h1:=by
 subst hoff
 unfold da eZ
 simp only[List.map_cons,List.map_nil,hx,hts,hz,hp,if_true]
 rw[hz1,qj hz1 hpos,<- List.map_replicate]
 unfold gI
 by_cases hn:n=0
 ·subst hn
  rw[if_pos rfl]
  refine⟨_,fun h1=>h1=h,⟨h,rfl,rfl⟩,fun h1 q=>?_⟩
  subst q
  refine k h1 ?_
  have e:l.take o++(List.replicate 0 z++l.drop (o+0))=l:=by simp
  rw[e,A.same];exact O
 ·rw[if_neg hn]
  obtain⟨hgs,hgg⟩:=O.get g _ A.mem
  simp only[hgg]
  have hle:0+o*s+(flatC ((List.replicate n z).map enc)).length<=(flatC (l.map enc)).length:=by
   rw[bk hsz,bk hsz,List.length_replicate]
   have:(o+n)*s<=l.length*s:=Nat.mul_le_mul_right s hlim
   rw[Nat.add_mul] at this
   omega
  rw[if_pos ⟨hle,tJ hone _⟩,pv hsz l o (List.replicate n z) (by rw[List.length_replicate];exact hlim),List.length_replicate]
  have u:=Upd.upd (h:=h) (g:=g) (.cells (flatC ((l.take o++(List.replicate n z++l.drop (o+n))).map enc)) false) (Heap.ag hgg)
  exact⟨_,fun h1=>Own B h0 (f (some g,.cells (flatC ((l.take o++(List.replicate n z++l.drop (o+n))).map enc)) false)) h1,⟨_,rfl,O.upd A u⟩,fun h1 q=>k h1 q⟩
def oq (s:Nat) (a:Option Nat) (n m:Nat):Value:=.slice (a.map fun g=>⟨g,0,some s⟩) n m
def zf (a:Option Nat) (n:Nat):Value:=.slice (a.map fun g=>⟨g,0,none⟩) n n
theorem AF {t e:TypeId}{x hi mx:Operand}{s n m:Nat}{a:Option Nat}{kk kk':IntKind}{K:Value->Prop} (hn:n<=m) (hk:K (zf a n))
  (hu:P.underlying t=some (.slice e):=by exact rfl) (hs:aL P e=some s:=by exact rfl) (hx:ρ x=oq s a n m:=by exact rfl) (hhi:ρ hi=.int kk (Int.ofNat n):=by exact rfl) (hmx:ρ mx=.int kk' (Int.ofNat n):=by exact rfl) :
  ∃ v,an P ρ { dst:=d,op:=.slice t x none (some hi) (some mx),type:=ty,pos:=pos,after:=af,guard:=gd }=some v/\K v:=by
 refine⟨_,?_,hk⟩
 have h1:∀ q,bnd (.int q (Int.ofNat n)) n=some n:=fun q=>if_pos ⟨Int.natCast_nonneg _,Int.ofNat_le.2 (Nat.le_refl _)⟩
 have h2:∀ q,bnd (.int q (Int.ofNat n)) m=some n:=fun q=>if_pos ⟨Int.natCast_nonneg _,Int.ofNat_le.2 hn⟩
 unfold an
 simp only[hu,hx,oq,hs,Option.map_some,Option.map_none,hhi,hmx]
 unfold eJ
 simp only[h1,h2]
 cases a with
 |none=>simp[zf]
 |some g=>simp[zf]
theorem si {t e:TypeId}{x lo:Operand}{g off s n cap:Nat} (m:Nat) {kk:IntKind}{K:Value->Prop} (hm:m<=n) (hk:K (.slice (some ⟨g,off+m*s,some s⟩) (n-m) (cap-m)))
  (hu:P.underlying t=some (.slice e):=by exact rfl) (hs:aL P e=some s:=by exact rfl) (hx:ρ x=.slice (some ⟨g,off,some s⟩) n cap:=by exact rfl) (hh:ρ lo=.int kk (Int.ofNat m):=by exact rfl) :
  ∃ v,an P ρ { dst:=d,op:=.slice t x (some lo) none none,type:=ty,pos:=pos,after:=af,guard:=gd }=some v/\K v:=by
 refine⟨_,?_,hk⟩
 unfold an
 have hb:eJ n cap (some (.int kk (Int.ofNat m))) none none=some (m,n,cap):=by
  unfold eJ
  simp only[yQ hm]
 simp only[hu,hx,hs,Option.map_some,Option.map_none,hh,hb,if_true]
theorem Ae {t e:TypeId}{x hi:Operand}{g s n cap:Nat} (m:Nat) {kk:IntKind}{K:Value->Prop} (hm:m<=cap) (hk:K (oq s (some g) m cap))
  (hu:P.underlying t=some (.slice e):=by exact rfl) (hs:aL P e=some s:=by exact rfl) (hx:ρ x=.slice (some ⟨g,0,some s⟩) n cap:=by exact rfl) (hh:ρ hi=.int kk (Int.ofNat m):=by exact rfl) :
  ∃ v,an P ρ { dst:=d,op:=.slice t x none (some hi) none,type:=ty,pos:=pos,after:=af,guard:=gd }=some v/\K v:=by
 have e0:0+0*s=0:=by omega
 refine⟨_,?_,hk⟩
 unfold an
 have hb:eJ n cap none (some (.int kk (Int.ofNat m))) none=some (0,m,cap):=by
  unfold eJ
  simp only[yQ hm]
 simp only[hu,hx,hs,Option.map_some,Option.map_none,hh,hb,e0,Nat.sub_zero,if_true]
 rfl
theorem ixW (s:Nat) {g o n cap j:Nat}{sp:Option Nat}{t e:TypeId}{x i:Operand}{kk:IntKind}{K:Value->Prop} (hj:j<n) (k:K (.pointer (some ⟨g,0+(o+j)*s,none⟩)))
  (hx:ρ x=.slice (some ⟨g,0+o*s,sp⟩) n cap:=by exact rfl) (hi:ρ i=.int kk (Int.ofNat j):=by exact rfl) (hu:P.underlying t=some (.slice e):=by exact rfl) (hs:aL P e=some s:=by exact rfl) :
  ∃ v,an P ρ { dst:=d,op:=.indexAddr t x i,type:=ty,pos:=pos,after:=af,guard:=gd }=some v/\K v:=by
 refine cC hu hs hx hi hj ?_
 rw[Nat.add_mul,<- Nat.add_assoc] at k
 exact k
end
theorem tm {β:Type}{l:List β}{j:Nat}{x:β} (h:l[j]?=some x):l.set j x=l:=by
 obtain⟨h1,rfl⟩:=List.getElem?_eq_some_iff.1 h
 exact List.set_getElem_self h1
theorem CodeS.za {P:Program}{N:Nat}{B:List AObj}{h0 h:Heap}{L:List Slot}{c:Code}{e:Env}{K:X->Env->Heap->Prop}{α:Type}{enc:α->Value}{l z:List α}{s:Nat}{a:Option Nat}{ro:Bool}{f:Slot->List Slot}
  (O:Own B h0 L h) (A:At (a,.cells (flatC ((l++z).map enc)) ro) L f) (ha:a=none->l=[]) (hs:∀ x:α,(cl (enc x)).length=s) {t:Nat} (ht:Nat.blt t e.n=true) (hv:e.get t=zf a l.length)
  (k:∀ h,Own B h0 (f (a,.cells (flatC ((l++z).map enc)) true)) h->ma e (some t) (aw s enc l) fun e=>CodeS P N c e h K):CodeS P N c e h K:=by
 cases a with
 |none =>
  have e1:=ha rfl
  subst e1
  refine .zU ht ?_ (k _ (O.zM A))
  rw[hv]
  exact VLe.nil _ _
 |some g =>
  have hg:=O.at A.mem
  have u:=Upd.upd (.cells (flatC ((l++z).map enc)) true) (Heap.ag hg)
  have O1:=O.upd A u
  have k1:CodeS P N c e (h.upd g (.cells (flatC ((l++z).map enc)) true)) K:=by
   refine .zU ht ?_ (k _ O1)
   rw[hv]
   have e:=wh (enc:=enc) hs (l++z) 0 l.length (by rw[List.length_append];omega)
   rw[List.drop_zero,List.take_left,Nat.zero_mul,Nat.add_zero] at e
   refine VLe.fl u.get (by rw[List.length_map]) (bR hs _) (by rw[bk hs,List.length_append,Nat.add_mul];omega) ?_
   rw[e]
   exact LLe.refl _ _
  refine⟨fun hM hok=>?_⟩
  obtain⟨x,e1,h1,hc,hk⟩:=k1.spec hM hok
  refine⟨x,e1,h1,⟨⟨by have:=hc.1.1;rw[u.size] at this;exact this,hc.1.2⟩,fun ι w a H r=>?_⟩,hk⟩
  obtain⟨l1,e1'⟩:=fF r (Nat.le_of_ble_eq_true ht) hv
  obtain⟨ι2,H2,S2⟩:=od H e1' hg
  refine wp_mono (hc.2 ι2 w a H2 (r.mono S2.ext)) ?_
  rintro x' a' w' ⟨rfl,ι',r',H',S⟩
  exact⟨rfl,ι',r',H',S2.trans S⟩
end Go.Abs
