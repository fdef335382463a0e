/-
  AbsXy: parts of the proof.
-/
import Derived.Test.YtlbeebglhebpjaaGreatDoorTt35
namespace Go.Abs
variable {P:Program} {ρ:Operand->Value} {d:Option Tmp} {ty:TypeId} {pos:String} {af:Array Edge} {gd:Option (Nat×Bool)}
theorem CV (m j:Nat) (hj:j<=63):bR P (Op.shift .shr .u64 (Int.ofNat m) .u64 (Int.ofNat j))=some (.int .u64 (Int.ofNat (m/2 ^ j))):=by
 unfold Op.shift
 have h0:¬ (Int.ofNat j<0):=by simp only[Int.ofNat_eq_natCast];omega
 rw[if_neg h0]
 have h1:min (Int.ofNat j).toNat IntKind.u64.bits=j:=by
  show min j 64=j
  omega
 simp only[h1]
 show some (Value.int .u64 ((Int.ofNat m).fdiv (2 ^ j)))=_
 rw[Int.fdiv_eq_ediv_of_nonneg _ (by exact Int.pow_nonneg (by decide))]
 congr 2
theorem xw {t yt:TypeId}{x y:Operand}{a b:Nat}{W:Prop}{K:Value->Prop} (hm:b<=63/\W) (k:W->K (.int .u64 (Int.ofNat (a/2 ^ b)))) (hx:ρ x=.int .u64 (Int.ofNat a):=by exact rfl) (hy:ρ y=.int .u64 (Int.ofNat b):=by exact rfl) :
 ∃ v,av P ρ { dst:=d,op:=.binOp .shr t x y yt,type:=ty,pos:=pos,after:=af,guard:=gd }=some v/\K v:=⟨_,DC (.inr rfl) hx hy (CV a b hm.1),k hm.2⟩
theorem AN (a k m:Nat) (hm:m+1=2 ^ k) (hk:k<=8):IntKind.u64.wrap ((BitVec.ofInt 64 (Int.ofNat a) &&& BitVec.ofInt 64 (Int.ofNat m)).toNat:Nat)=Int.ofNat (a%2 ^ k):=by
 have h8:2 ^ k<=2 ^ 8:=Nat.pow_le_pow_right (by decide) hk
 have e1:(BitVec.ofInt 64 (Int.ofNat m)).toNat=m:=by
  simp only[Int.ofNat_eq_natCast,BitVec.ofInt_natCast,BitVec.toNat_ofNat]
  exact Nat.mod_eq_of_lt (by omega)
 have e2:(BitVec.ofInt 64 (Int.ofNat a)).toNat=a%2 ^ 64:=by
  simp only[Int.ofNat_eq_natCast,BitVec.ofInt_natCast,BitVec.toNat_ofNat]
 rw[BitVec.toNat_and,e1,e2,show m=2 ^ k-1 by omega,Nat.and_two_pow_sub_one_eq_mod,Nat.mod_mod_of_dvd _ (Nat.pow_dvd_pow 2 (by omega))]
 have hlt:a%2 ^ k<2 ^ k:=Nat.mod_lt _ (Nat.two_pow_pos k)
 exact xM (by omega)
theorem Bj {t yt:TypeId}{x y:Operand}{a:Nat} (k m:Nat) {K:Value->Prop} (kk:K (.int .u64 (Int.ofNat (a%2 ^ k)))) (hx:ρ x=.int .u64 (Int.ofNat a):=by exact rfl) (hy:ρ y=.int .u64 (Int.ofNat m):=by exact rfl) (hm:m+1=2 ^ k:=by decide) (hk:k<=8:=by decide) :
  ∃ v,av P ρ { dst:=d,op:=.binOp .and t x y yt,type:=ty,pos:=pos,after:=af,guard:=gd }=some v/\K v:=by
 refine⟨_,C7 (.inl rfl) hx hy ?_,kk⟩
 unfold Op.intBits
 show some (Value.int .u64 (IntKind.u64.wrap ((BitVec.ofInt 64 (Int.ofNat a) &&& BitVec.ofInt 64 (Int.ofNat m)).toNat:Nat)))=_
 rw[AN a k m hm hk]
theorem xF {t yt:TypeId}{x y:Operand}{a b:Nat} (hx:ρ x=.int .u64 (Int.ofNat a)) (hy:ρ y=.int .u64 (Int.ofNat b)) (hb:a+b<2 ^ 64) :
  av P ρ { dst:=d,op:=.binOp .add t x y yt,type:=ty,pos:=pos,after:=af,guard:=gd }=some (.int .u64 (Int.ofNat (a+b))):=by
 refine wP hx hy ?_
 simp only[fu,Option.some.injEq,Value.int.injEq,true_and]
 exact xM hb
theorem CodeS.B3 {N:Nat}{B:List AObj}{h0 h:Heap}{L:List Slot}{c:Code}{e:Env}{K:X->Env->Heap->Prop} (O:Own B h0 L h) {gl:Nat}{cs:List Value}{ro:Bool}{f:Slot->List Slot} (A:At (some gl,.cells cs ro) L f)
  {t2:Nat} {v:Value} (ht2:Nat.blt t2 e.n=true) (hv2:e.get t2=.pointer (some ⟨gl,0,none⟩)) (hv:cl v=cs)
  (k:∀ h,Own B h0 (f (some gl,.cells cs true)) h->mc e (some t2) (FP v) fun e=>CodeS P N c e h K):CodeS P N c e h K:=by
 have hg:=O.at A.mem
 have u:=Upd.upd (.cells cs true) (Heap.ak hg)
 have O1:=O.upd A u
 refine⟨fun hM hok=>?_⟩
 obtain⟨x,e1,h1,hc,hk⟩:=(ez.1 (k _ O1)).spec hM (by rw[Env.eQ];exact hok)
 refine⟨x,e1,h1,⟨⟨by have:=hc.1.1;rw[u.size] at this;exact this,by rw[hc.1.2,Env.eQ]⟩,fun ι w a H r=>?_⟩,hk⟩
 obtain⟨l2,e2'⟩:=rG r (Nat.le_of_ble_eq_true ht2) hv2
 obtain⟨ι2,H2,S2⟩:=fX H e2' hg
 have r4:ERel ι2 e a:=r.mono S2.ext
 have hvv:VLe (h.upd gl (.cells cs true)) (.pointer (some ⟨gl,0,none⟩)) (FP v):=by
  refine VLe.fp u.get (by rw[hv];omega) ?_
  rw[hv,List.drop_zero,List.take_length]
  exact LLe.refl _ _
 have r5:ERel ι2 (e.put (some t2) (FP v)) a:=⟨r4.defers,by rw[Env.eQ];exact r4.size,fun t ht=>by
  rw[Env.eQ] at ht
  have:=r4.get t ht
  show VRel ι2 ((e.set t2 (FP v)).get t) _
  rw[Env.bA]
  by_cases q:t=t2
  ·subst q
   rw[if_pos rfl]
   rw[hv2] at this
   exact hvv N ι2 w _ H2 this
  ·rw[if_neg q];exact this⟩
 refine wp_mono (hc.2 ι2 w a H2 r5) ?_
 rintro x' a' w' ⟨rfl,ι',r',H',S⟩
 exact⟨rfl,ι',r',H',S2.trans S⟩
theorem CodeS.CL {N:Nat}{B:List AObj}{h0 h:Heap}{L:List Slot}{c:Code}{e:Env}{K:X->Env->Heap->Prop} (O:Own B h0 L h) {gl:Nat}{cs:List Value}{ro:Bool}{f:Slot->List Slot} (A:At (some gl,.cells cs ro) L f)
  (t2:Nat) (ht2:Nat.blt t2 e.n=true) (hv2:e.get t2=.pointer (some ⟨gl,0,none⟩))
  (k:∀ h,Own B h0 (f (some gl,.cells cs true)) h->mc e (some t2) (FP (.agg ⟨cs⟩)) fun e=>CodeS P N c e h K):CodeS P N c e h K :=
 CodeS.B3 O A ht2 hv2 rfl k
def stV {α:Type} (_enc:α->Value) (a t:Option Nat) (l J:List α):Value:=.slice (a.map fun g=>⟨g,0,t⟩) l.length (l++J).length
variable {N:Nat} {B:List AObj} {h0 h:Heap} {L:List Slot}
theorem Own.Ak {a:Option Nat}{o:AObj}{f:Slot->List Slot} (O:Own B h0 L h) (A:At (a,o) L f) (o':AObj) (hd:Heap) (hsz':hd.size=h.size) (hget:∀ k,h0.size<=k->a≠some k->hd.get k=h.get k) (hext:Ext h0 hd):Own B h0 (f (some h.size,o')) (hd.push o'):=by
 refine⟨O.base,hext.trans ⟨Nat.le_succ _,fun g hg=>by rw[Heap.aU,if_neg (by omega)]⟩,fun k x m=>?_,A.apart O.apart fun x m hx=>?_⟩
 ·have key:∀ {L:List Slot} {f:Slot->List Slot},At (a,o) L f->L.Pairwise Apart->(some k,x)∈f (some h.size,o')->(k=h.size/\x=o')\/(a≠some k/\(some k,x)∈L):=by
   intro L f a
   induction a with
   |head L =>
    intro ha m
    rcases List.mem_cons.1 m with m|m
    ·cases m;exact .inl ⟨rfl,rfl⟩
    ·exact .inr ⟨fun e=>(List.pairwise_cons.1 ha).1 _ m k e rfl,.tail _ m⟩
   |tail r a ih =>
    intro ha m
    have hap:=(List.pairwise_cons.1 ha).1 _ a.mem
    rcases List.mem_cons.1 m with m|m
    ·refine .inr ⟨fun e=>?_,by rw[m];exact .head _⟩
     subst m
     exact hap k rfl e
    ·rcases ih (List.pairwise_cons.1 ha).2 m with q|⟨q1,q2⟩
     ·exact .inl q
     ·exact .inr ⟨q1,.tail _ q2⟩
  rcases key A O.apart m with⟨rfl,rfl⟩|⟨q1,q2⟩
  ·exact⟨O.ext.1,by rw[Heap.aU,if_pos hsz'.symm]⟩
  ·obtain⟨r1,r2⟩:=O.get k x q2
   have:=Heap.ak r2
   exact⟨r1,by rw[Heap.aU,if_neg (by omega),hget k r1 q1];exact r2⟩
 ·by_cases q:x.1=some h.size
  ·exfalso
   obtain⟨x1,x2⟩:=x
   simp only at q
   subst q
   have:=Heap.ak (O.get _ _ m).2
   omega
  ·refine .inl ⟨fun g e e'=>?_,fun g e e'=>?_⟩
   ·cases e;exact q e'
   ·cases e';exact q e
theorem Own.kO {ts:TypeId}{a x:Operand}{g off:Nat}{cs l:List Value}{f:Slot->List Slot}{K:Value->Heap->Prop} (O:Own B h0 L h) (n:Nat) (A:At (some g,.cells cs false) L f) (k:∀ h1,Ext h h1->Own B h0 L h1->K undef h1)
  (ha:ρ a=.pointer (some ⟨g,off,none⟩):=by exact rfl) (hs:aF P ts=some n:=by exact rfl) (hx:cl (ρ x)=l:=by exact rfl) (hl:l.length=n:=by exact rfl) (hle:Nat.ble (off+n) cs.length=true:=by exact rfl) (h1:l.all Value.oneCell'=true:=by exact rfl) (hcs:aS cs off l=cs:=by exact rfl) :
  ∃ (v:Value) (T:Heap->Prop),(∃ h',ct P ρ { dst:=d,op:=.store ts a x,type:=ty,pos:=pos,after:=af,guard:=gd } h=some (v,h')/\T h')/\∀ h1,T h1->K v h1:=by
 have hg:=O.at A.mem
 refine AQ ha hg hs hx hl (Nat.le_of_ble_eq_true hle) h1 fun h1 u=>?_
 rw[hcs] at u
 have q:=O.upd A u
 rw[A.same] at q
 refine k h1 ⟨Nat.le_of_eq u.size.symm,fun m hm=>?_⟩ q
 by_cases e:m=g
 ·subst e
  rw[hg]
  exact (q.get _ _ A.mem).2
 ·exact u.other m e
theorem Own.Dl {α:Type}{enc:α->Value}{l new J:List α}{ts tx te:TypeId}{dx:TypeDesc}{x y:Operand}{s b:Nat}{a t:Option Nat}{z:Value}{f:Slot->List Slot}{K:Value->Heap->Prop} (O:Own B h0 L h) (A:At (a,.cells (flatC ((l++J).map enc)) false) L f) (ha:a=none->l++J=[]) (ht:t=none\/t=some s)
  (hts:P.underlying ts=some (.slice te)) (htx:P.underlying tx=some dx) (hni:cO dx=true) (hs:aF P te=some s) (hb:gf P te=some b) (hz:zeroOf P te=some z) (hzs:z.cells.size=s)
  (hx:ρ x=stV enc a t l J) (hy:YOk h s (ρ y) enc new) (hsz:∀ x:α,(cl (enc x)).length=s) (hone:∀ x:α,(cl (enc x)).all Value.oneCell'=true)
  (hb0:0<b) (hlim:(l.length+new.length)*b<=2 ^ 47)
  (k:∀ a' t' J' h1,(a'=none->(l++new)++J'=[])->(t'=none\/t'=some s)->Own B h0 (f (a',.cells (flatC (((l++new)++J').map enc)) false)) h1->K (stV enc a' t' (l++new) J') h1) :
  ∃ (v:Value) (T:Heap->Prop),(∃ h',ct P ρ { dst:=d,op:=.call { callee:=.builtin .append,args := #[x,y],argTypes := #[ts,tx] },type:=ty,pos:=pos,after:=af,guard:=gd } h=some (v,h')/\T h')/\∀ h1,T h1->K v h1:=by
 have hy0:=hy.len
 have hf0:=hy.first
 unfold ct ec
 simp only[List.map_cons,List.map_nil,hx,stV,hts,htx,hni,if_true,hs,hb,hz,hy0,hf0]
 unfold bU
 by_cases hm0:new.length=0
 ·have hn:new=[]:=List.eq_nil_of_length_eq_zero hm0
  subst hn
  rw[if_pos (show ([]:List α).length=0 from rfl),if_pos ⟨by simp[flatC],by rw[List.length_append];omega⟩]
  refine⟨_,fun h1=>h1=h,⟨h,rfl,rfl⟩,fun h1 e=>?_⟩
  subst e
  have:=k a t J h1 (by rw[List.append_nil];exact ha) ht (by rw[List.append_nil,A.same];exact O)
  rw[List.append_nil] at this
  exact this
 rw[if_neg hm0]
 by_cases hroom:l.length+new.length<=(l++J).length
 ·rw[if_pos hroom]
  cases a with
  |none =>
   have:=ha rfl
   rw[this] at hroom
   simp only[List.length_nil] at hroom
   omega
  |some g =>
   obtain⟨hgs,hgg⟩:=O.get g _ A.mem
   simp only[Option.map_some,hgg]
   have hle:0+l.length*s+(flatC (new.map enc)).length<=(flatC ((l++J).map enc)).length:=by
    rw[aM hsz,aM hsz]
    have:(l.length+new.length)*s<=(l++J).length*s:=Nat.mul_le_mul_right s hroom
    rw[Nat.add_mul] at this
    omega
   rw[if_pos ⟨.inl hle,oa hone _⟩,jE hsz (l++J) l.length new hroom]
   have e1:(l++J).take l.length++(new++(l++J).drop (l.length+new.length))=(l++new)++J.drop new.length:=by
    rw[List.take_left,List.append_assoc]
    congr 2
    rw[List.drop_append]
    have:l.drop (l.length+new.length)=[]:=List.drop_eq_nil_of_le (by omega)
    rw[this,List.nil_append,Nat.add_sub_cancel_left]
   rw[e1]
   have u:=Upd.upd (h:=h) (g:=g) (.cells (flatC (((l++new)++J.drop new.length).map enc)) false) (Heap.ak hgg)
   refine⟨_,fun h1=>Own B h0 (f (some g,.cells (flatC (((l++new)++J.drop new.length).map enc)) false)) h1,⟨_,rfl,O.upd A u⟩,fun h1 q=>?_⟩
   have:=k (some g) t (J.drop new.length) h1 (fun e=>by cases e) ht q
   have e2:((l++new)++J.drop new.length).length=(l++J).length:=by
    rw[List.length_append] at hroom
    simp only[List.length_append,List.length_drop]
    omega
   unfold stV at this
   rw[e2,List.length_append] at this
   exact this
 ·have hlen:(flatC (new.map enc)).length=new.length*s:=aM hsz new
  rw[if_neg hroom,if_pos ⟨hb0,hlim,hzs,hlen,oa hone _⟩]
  have e3:((flatC ((l++J).map enc)).drop 0).take (l.length*s)=flatC (l.map enc):=by
   rw[List.drop_zero,List.map_append,aN,List.take_append_of_le_length (by rw[aM hsz];exact Nat.le_refl _),<- aM hsz l,List.take_length]
  have e4:flatC (l.map enc)++flatC (new.map enc)=flatC (((l++new)++[]).map enc):=by
   rw[List.append_nil,List.map_append,aN]
  have hcs:0+l.length*s<=(flatC ((l++J).map enc)).length:=by
   rw[aM hsz,List.length_append,Nat.zero_add]
   exact Nat.mul_le_mul_right s (by omega)
  refine⟨.slice (some ⟨h.size,0,some s⟩) (l.length+new.length) (l.length+new.length),fun h1=>Own B h0 (f (some h.size,.cells (flatC (((l++new)++[]).map enc)) false)) h1,?_,fun h1 q=>?_⟩
  ·cases a with
   |none =>
    have q:=ha rfl
    have hl:l=[]:=(List.append_eq_nil_iff.1 q).1
    have hJ:J=[]:=(List.append_eq_nil_iff.1 q).2
    subst hl hJ
    refine⟨_,rfl,?_⟩
    have:=O.Ak A (.cells (flatC (([]++new++[]).map enc)) false) h rfl (fun _ _ _=>rfl) O.ext
    simpa using this
   |some g =>
    obtain⟨hgs,hgg⟩:=O.get g _ A.mem
    have hlt:=Heap.ak hgg
    rcases ht with rfl|rfl
    ·simp only[Option.map_some,hgg]
     rw[if_pos hcs,e3,e4]
     exact⟨_,rfl,O.Ak A _ h rfl (fun _ _ _=>rfl) O.ext⟩
    ·simp only[Option.map_some,hgg]
     rw[if_pos ⟨hcs,trivial⟩,e3,e4]
     exact⟨_,rfl,O.Ak A _ (h.upd g .dead) rfl (fun k _ hne=>by rw[Heap.bn _ _ _ _ hlt,if_neg (fun e=>hne (by rw[e]))]) ⟨O.ext.1,fun k hk=>by rw[Heap.bn _ _ _ _ hlt,if_neg (by omega)];exact O.ext.2 k hk⟩⟩
  ·have:=k (some h.size) (some s) [] h1 (fun e=>by cases e) (.inr rfl) q
   unfold stV at this
   rw[List.append_nil,List.length_append] at this
   exact this
theorem Ey {α:Type}{enc:α->Value}{l J:List α}{g:Nat}{tg:Option Nat}{t e:TypeId}{x hi:Operand}{s k:Nat}{ki:IntKind}{K:Value->Prop} (hu:P.underlying t=some (.slice e)) (hs:aF P e=some s) (hx:ρ x=stV enc (some g) tg l J) (ht:tg=none\/tg=some s) (hhi:ρ hi=.int ki (Int.ofNat k)) (hk:k<=l.length)
  (kk:K (stV enc (some g) tg (l.take k) (l.drop k++J))):∃ v,av P ρ { dst:=d,op:=.slice t x none (some hi) none,type:=ty,pos:=pos,after:=af,guard:=gd }=some v/\K v:=by
 refine⟨_,?_,kk⟩
 have e1:((l.take k)++(l.drop k++J)).length=(l++J).length:=by rw[<- List.append_assoc,List.take_append_drop]
 unfold stV
 rw[e1,List.length_take,Nat.min_eq_left hk]
 have hb:bnd (.int ki (Int.ofNat k)) (l++J).length=some k:=if_pos ⟨Int.natCast_nonneg _,Int.ofNat_le.2 (by rw[List.length_append];omega)⟩
 have hbn:dJ l.length (l++J).length none (some (.int ki (Int.ofNat k))) none=some (0,k,(l++J).length):=by
  show (match bnd (.int ki (Int.ofNat k)) (l++J).length with|none=>none|some h=>some (0,h,(l++J).length))=_
  rw[hb]
 unfold av
 simp only[hu,hx,stV,Option.map_some,hs,Option.map_none,hhi,hbn]
 rcases ht with rfl|rfl <;> simp
theorem ER {α:Type}{enc:α->Value} (l J:List α) (k:Nat):flatC ((l++J).map enc)=flatC (((l.take k)++(l.drop k++J)).map enc):=by rw[<- List.append_assoc,List.take_append_drop]
theorem Es {α:Type}{l J:List α}{i:Nat}{x:α} (h:l[i]?=some x):(l++J)[i]?=some x:=by
 rw[List.getElem?_append_left (ak h)];exact h
theorem DD {α:Type}{l J:List α}{a:Option Nat} (ha:a=none->l++J=[]) {i:Nat}{x:α} (h:l[i]?=some x):∃ g,a=some g:=by
 cases a with
 |none =>
  have:=ha rfl
  rw[(List.append_eq_nil_iff.1 this).1] at h
  cases h
 |some g=>exact⟨g,rfl⟩
end Go.Abs
