/-
  AbsXy: parts of the proof.
-/
import Derived.Test.YtgiedjgdlckahaaGreatDoorTk35
namespace Go.Abs
variable {P:Program} {ρ:Operand->Value} {d:Option Tmp} {ty:TypeId} {pos:String} {af:Array Edge} {gd:Option (Nat×Bool)}
theorem Ho (m j:Nat) (hj:j<=63):bK P (Op.shift .shr .u64 (Int.ofNat m) .u64 (Int.ofNat j))=some (.int .u64 (Int.ofNat (m/2 ^ j))):=by
 unfold Op.shift
 have h0:¬ (Int.ofNat j<0):=by simp only[Int.ofNat_eq_natCast];omega
 rw[if_neg h0]
 have h1:min (Int.ofNat j).toNat IntKind.u64.bits=j:=by
  show min j 64=j
  omega
 simp only[h1]
 show some (Value.int .u64 ((Int.ofNat m).fdiv (2 ^ j)))=_
 rw[Int.fdiv_eq_ediv_of_nonneg _ (by exact Int.pow_nonneg (by decide))];congr 2
theorem IG {t yt:TypeId}{x y:Operand}{a b:Nat}{W:Prop}{K:Value->Prop} (hm:b<=63/\W) (k:W->K (.int .u64 (Int.ofNat (a/2 ^ b)))) (hx:ρ x=.int .u64 (Int.ofNat a):=by exact rfl) (hy:ρ y=.int .u64 (Int.ofNat b):=by exact rfl) :
 ∃ v,aq P ρ { dst:=d,op:=.binOp .shr t x y yt,type:=ty,pos:=pos,after:=af,guard:=gd }=some v/\K v:=⟨_,Iv (.inr rfl) hx hy (Ho a b hm.1),k hm.2⟩
theorem Ej (a k m:Nat) (hm:m+1=2 ^ k) (hk:k<=8):IntKind.u64.wrap ((BitVec.ofInt 64 (Int.ofNat a) &&& BitVec.ofInt 64 (Int.ofNat m)).toNat:Nat)=Int.ofNat (a%2 ^ k):=by
 have h8:2 ^ k<=2 ^ 8:=Nat.pow_le_pow_right (by decide) hk
 have e1:(BitVec.ofInt 64 (Int.ofNat m)).toNat=m:=by
  simp only[Int.ofNat_eq_natCast,BitVec.ofInt_natCast,BitVec.toNat_ofNat];exact Nat.mod_eq_of_lt (by omega)
 have e2:(BitVec.ofInt 64 (Int.ofNat a)).toNat=a%2 ^ 64:=by
  simp only[Int.ofNat_eq_natCast,BitVec.ofInt_natCast,BitVec.toNat_ofNat]
 rw[BitVec.toNat_and,e1,e2,show m=2 ^ k-1 by omega,Nat.and_two_pow_sub_one_eq_mod,Nat.mod_mod_of_dvd _ (Nat.pow_dvd_pow 2 (by omega))];have hlt:a%2 ^ k<2 ^ k:=Nat.mod_lt _ (Nat.two_pow_pos k);exact nD (by omega)
theorem Jb {t yt:TypeId}{x y:Operand}{a:Nat} (k m:Nat) {K:Value->Prop} (kk:K (.int .u64 (Int.ofNat (a%2 ^ k)))) (hx:ρ x=.int .u64 (Int.ofNat a):=by exact rfl) (hy:ρ y=.int .u64 (Int.ofNat m):=by exact rfl) (hm:m+1=2 ^ k:=by decide) (hk:k<=8:=by decide) :
  ∃ v,aq P ρ { dst:=d,op:=.binOp .and t x y yt,type:=ty,pos:=pos,after:=af,guard:=gd }=some v/\K v:=by
 refine⟨_,Cd (.inl rfl) hx hy ?_,kk⟩;unfold Op.intBits
 show some (Value.int .u64 (IntKind.u64.wrap ((BitVec.ofInt 64 (Int.ofNat a) &&& BitVec.ofInt 64 (Int.ofNat m)).toNat:Nat)))=_
 rw[Ej a k m hm hk]
theorem HW {t yt:TypeId}{x y:Operand}{a b:Nat} (hx:ρ x=.int .u64 (Int.ofNat a)) (hy:ρ y=.int .u64 (Int.ofNat b)) (hb:a+b<2 ^ 64) :
  aq P ρ { dst:=d,op:=.binOp .add t x y yt,type:=ty,pos:=pos,after:=af,guard:=gd }=some (.int .u64 (Int.ofNat (a+b))):=by
 refine vr hx hy ?_;simp only[dK,Option.some.injEq,Value.int.injEq,true_and];exact nD hb
theorem Jn {t yt:TypeId}{x y:Operand}{a b:Int} (hx:ρ x=.int .i64 a) (hy:ρ y=.int .i64 b) (h1 : -(2 ^ 63)<=a+b) (h2:a+b<2 ^ 63) :
  aq P ρ { dst:=d,op:=.binOp .add t x y yt,type:=ty,pos:=pos,after:=af,guard:=gd }=some (.int .i64 (a+b)):=by
 refine vr hx hy ?_;simp only[dK,Option.some.injEq,Value.int.injEq,true_and];rw[IntWalk.i64_in _ (by omega)]
theorem AG {P:Program}{kt:TypeId}{kd:TypeDesc}{k k':Value}{b:Bool}{xs ys:List Value} (hk:eR kd=false) (he:ma P kt k k'=some b) (hy:k=.agg ⟨ys⟩) (hx:k'=.agg ⟨xs⟩) (h1:b=true->qT xs ys=true):eM P kt kd k k'=some b:=by
 subst hx hy;unfold eM;rw[hk];dsimp only;rw[he]
 cases b with
 |false=>rfl
 |true =>
  dsimp only;rw[h1 rfl]
theorem CodeS.GS {N:Nat}{B:List AObj}{h0 h:Heap}{L:List Slot}{c:Code}{e:Env}{K:X->Env->Heap->Prop} (O:Own B h0 L h) {gl:Nat}{cs:List Value}{ro:Bool}{f:Slot->List Slot} (A:At (some gl,.cells cs ro) L f)
  {t2:Nat} {v:Value} (ht2:Nat.blt t2 e.n=true) (hv2:e.get t2=.pointer (some ⟨gl,0,none⟩)) (hv:cl v=cs)
  (k:∀ h,Own B h0 (f (some gl,.cells cs true)) h->nX e (some t2) (FP v) fun e=>CodeS P N c e h K):CodeS P N c e h K:=by
 have hg:=O.at A.mem;have u:=Upd.upd (.cells cs true) (Heap.ag hg);have O1:=O.upd A u;refine⟨fun hM hok=>?_⟩;obtain⟨x,e1,h1,hc,hk⟩:=(fC.1 (k _ O1)).spec hM (by rw[Env.gJ];exact hok);refine⟨x,e1,h1,⟨⟨by have:=hc.1.1;rw[u.size] at this;exact this,by rw[hc.1.2,Env.gJ]⟩,fun ι w a H r=>?_⟩,hk⟩;obtain⟨l2,e2'⟩:=AY r (Nat.le_of_ble_eq_true ht2) hv2;obtain⟨ι2,H2,S2⟩:=jW H e2' hg;have r4:ERel ι2 e a:=r.mono S2.ext
 have hvv:VLe (h.upd gl (.cells cs true)) (.pointer (some ⟨gl,0,none⟩)) (FP v):=by
  refine VLe.fp u.get (by rw[hv];omega) ?_;rw[hv,List.drop_zero,List.take_length];exact LLe.refl _ _
 have r5:ERel ι2 (e.put (some t2) (FP v)) a:=⟨r4.defers,by rw[Env.gJ];exact r4.size,fun t ht=>by
  rw[Env.gJ] at ht;have:=r4.get t ht
  show VRel ι2 ((e.set t2 (FP v)).get t) _
  rw[Env.dq];by_cases q:t=t2
  ·subst q;rw[if_pos rfl];rw[hv2] at this;exact hvv N ι2 w _ H2 this
  ·rw[if_neg q];exact this⟩
 refine wp_mono (hc.2 ι2 w a H2 r5) ?_;rintro x' a' w' ⟨rfl,ι',r',H',S⟩;exact⟨rfl,ι',r',H',S2.trans S⟩
theorem CodeS.CA {N:Nat}{B:List AObj}{h0 h:Heap}{L:List Slot}{c:Code}{e:Env}{K:X->Env->Heap->Prop} (O:Own B h0 L h) {gl:Nat}{cs:List Value}{ro:Bool}{f:Slot->List Slot} (A:At (some gl,.cells cs ro) L f)
  (t2:Nat) (ht2:Nat.blt t2 e.n=true) (hv2:e.get t2=.pointer (some ⟨gl,0,none⟩))
  (k:∀ h,Own B h0 (f (some gl,.cells cs true)) h->nX e (some t2) (FP (.agg ⟨cs⟩)) fun e=>CodeS P N c e h K):CodeS P N c e h K :=
 CodeS.GS O A ht2 hv2 rfl k
def stV {α:Type} (_enc:α->Value) (a t:Option Nat) (l J:List α):Value:=.slice (a.map fun g=>⟨g,0,t⟩) l.length (l++J).length
variable {N:Nat} {B:List AObj} {h0 h:Heap} {L:List Slot}
theorem Own.FG {a:Option Nat}{o:AObj}{f:Slot->List Slot} (O:Own B h0 L h) (A:At (a,o) L f) (o':AObj) (hd:Heap) (hsz':hd.size=h.size) (hget:∀ k,h0.size<=k->a≠some k->hd.get k=h.get k) (hext:Ext h0 hd):Own B h0 (f (some h.size,o')) (hd.push o'):=by
 refine⟨O.base,hext.trans ⟨Nat.le_succ _,fun g hg=>by rw[Heap.bc,if_neg (by omega)]⟩,fun k x m=>?_,A.apart O.apart fun x m hx=>?_⟩
 ·have key:∀ {L:List Slot} {f:Slot->List Slot},At (a,o) L f->L.Pairwise Apart->(some k,x)∈f (some h.size,o')->(k=h.size/\x=o')\/(a≠some k/\(some k,x)∈L):=by
   intro L f a
   induction a with
   |head L =>
    intro ha m
    rcases List.mem_cons.1 m with m|m
    ·cases m;exact .inl ⟨rfl,rfl⟩
    ·exact .inr ⟨fun e=>(List.pairwise_cons.1 ha).1 _ m k e rfl,.tail _ m⟩
   |tail r a ih =>
    intro ha m;have hap:=(List.pairwise_cons.1 ha).1 _ a.mem
    rcases List.mem_cons.1 m with m|m
    ·refine .inr ⟨fun e=>?_,by rw[m];exact .head _⟩;subst m;exact hap k rfl e
    ·rcases ih (List.pairwise_cons.1 ha).2 m with q|⟨q1,q2⟩
     ·exact .inl q
     ·exact .inr ⟨q1,.tail _ q2⟩
  rcases key A O.apart m with⟨rfl,rfl⟩|⟨q1,q2⟩
  ·exact⟨O.ext.1,by rw[Heap.bc,if_pos hsz'.symm]⟩
  ·obtain⟨r1,r2⟩:=O.get k x q2;have:=Heap.ag r2;exact⟨r1,by rw[Heap.bc,if_neg (by omega),hget k r1 q1];exact r2⟩
 ·by_cases q:x.1=some h.size
  ·exfalso;obtain⟨x1,x2⟩:=x;simp only at q;subst q;have:=Heap.ag (O.get _ _ m).2;omega
  ·refine .inl ⟨fun g e e'=>?_,fun g e e'=>?_⟩
   ·cases e;exact q e'
   ·cases e';exact q e
theorem Own.A7 {α:Type}{enc:α->Value}{l new J:List α}{ts tx te:TypeId}{dx:TypeDesc}{x y:Operand}{s b:Nat}{a t:Option Nat}{z:Value}{f:Slot->List Slot}{K:Value->Heap->Prop} (O:Own B h0 L h) (A:At (a,.cells (flatC ((l++J).map enc)) false) L f) (ha:a=none->l++J=[]) (ht:t=none\/t=some s)
  (hts:P.underlying ts=some (.slice te)) (htx:P.underlying tx=some dx) (hni:eB dx=true) (hs:aQ P te=some s) (hb:kJ P te=some b) (hz:zeroOf P te=some z) (hzs:z.cells.size=s)
  (hx:ρ x=stV enc a t l J) (hy:YOk h s (ρ y) enc new) (hsz:∀ x:α,(cl (enc x)).length=s) (hone:∀ x:α,(cl (enc x)).all Value.oneCell'=true)
  (hb0:0<b) (hlim:(l.length+new.length)*b<=2 ^ 47)
  (k:∀ a' t' J' h1,(a'=none->(l++new)++J'=[])->(t'=none\/t'=some s)->Own B h0 (f (a',.cells (flatC (((l++new)++J').map enc)) false)) h1->K (stV enc a' t' (l++new) J') h1) :
  ∃ (v:Value) (T:Heap->Prop),(∃ h',dp P ρ { dst:=d,op:=.call { callee:=.builtin .append,args := #[x,y],argTypes := #[ts,tx] },type:=ty,pos:=pos,after:=af,guard:=gd } h=some (v,h')/\T h')/\∀ h1,T h1->K v h1:=by
 have hy0:=hy.len;have hf0:=hy.first;unfold dp fO;simp only[List.map_cons,List.map_nil,hx,stV,hts,htx,hni,if_true,hs,hb,hz,hy0,hf0];unfold de;by_cases hm0:new.length=0
 ·have hn:new=[]:=List.eq_nil_of_length_eq_zero hm0;subst hn;rw[if_pos (show ([]:List α).length=0 from rfl),if_pos ⟨by simp[flatC],by rw[List.length_append];omega⟩];refine⟨_,fun h1=>h1=h,⟨h,rfl,rfl⟩,fun h1 e=>?_⟩;subst e;have:=k a t J h1 (by rw[List.append_nil];exact ha) ht (by rw[List.append_nil,A.same];exact O);rw[List.append_nil] at this;exact this
 rw[if_neg hm0];by_cases hroom:l.length+new.length<=(l++J).length
 ·rw[if_pos hroom]
  cases a with
  |none =>
   have:=ha rfl;rw[this] at hroom;simp only[List.length_nil] at hroom;omega
  |some g =>
   obtain⟨hgs,hgg⟩:=O.get g _ A.mem;simp only[Option.map_some,hgg]
   have hle:0+l.length*s+(flatC (new.map enc)).length<=(flatC ((l++J).map enc)).length:=by
    rw[aX hsz,aX hsz];have:(l.length+new.length)*s<=(l++J).length*s:=Nat.mul_le_mul_right s hroom;rw[Nat.add_mul] at this;omega
   rw[if_pos ⟨.inl hle,xW hone _⟩,lC hsz (l++J) l.length new hroom]
   have e1:(l++J).take l.length++(new++(l++J).drop (l.length+new.length))=(l++new)++J.drop new.length:=by
    rw[List.take_left,List.append_assoc];congr 2;rw[List.drop_append];have:l.drop (l.length+new.length)=[]:=List.drop_eq_nil_of_le (by omega);rw[this,List.nil_append,Nat.add_sub_cancel_left]
   rw[e1];have u:=Upd.upd (h:=h) (g:=g) (.cells (flatC (((l++new)++J.drop new.length).map enc)) false) (Heap.ag hgg);refine⟨_,fun h1=>Own B h0 (f (some g,.cells (flatC (((l++new)++J.drop new.length).map enc)) false)) h1,⟨_,rfl,O.upd A u⟩,fun h1 q=>?_⟩;have:=k (some g) t (J.drop new.length) h1 (fun e=>by cases e) ht q
   have e2:((l++new)++J.drop new.length).length=(l++J).length:=by
    rw[List.length_append] at hroom;simp only[List.length_append,List.length_drop];omega
   unfold stV at this;rw[e2,List.length_append] at this;exact this
 ·have hlen:(flatC (new.map enc)).length=new.length*s:=aX hsz new;rw[if_neg hroom,if_pos ⟨hb0,hlim,hzs,hlen,xW hone _⟩]
  have e3:((flatC ((l++J).map enc)).drop 0).take (l.length*s)=flatC (l.map enc):=by
   rw[List.drop_zero,List.map_append,bN,List.take_append_of_le_length (by rw[aX hsz];exact Nat.le_refl _),<- aX hsz l,List.take_length]
  have e4:flatC (l.map enc)++flatC (new.map enc)=flatC (((l++new)++[]).map enc):=by
   rw[List.append_nil,List.map_append,bN]
  have hcs:0+l.length*s<=(flatC ((l++J).map enc)).length:=by
   rw[aX hsz,List.length_append,Nat.zero_add];exact Nat.mul_le_mul_right s (by omega)
  refine⟨.slice (some ⟨h.size,0,some s⟩) (l.length+new.length) (l.length+new.length),fun h1=>Own B h0 (f (some h.size,.cells (flatC (((l++new)++[]).map enc)) false)) h1,?_,fun h1 q=>?_⟩
  ·cases a with
   |none =>
    have q:=ha rfl;have hl:l=[]:=(List.append_eq_nil_iff.1 q).1;have hJ:J=[]:=(List.append_eq_nil_iff.1 q).2;subst hl hJ;refine⟨_,rfl,?_⟩;have:=O.FG A (.cells (flatC (([]++new++[]).map enc)) false) h rfl (fun _ _ _=>rfl) O.ext;simpa using this
   |some g =>
    obtain⟨hgs,hgg⟩:=O.get g _ A.mem;have hlt:=Heap.ag hgg
    rcases ht with rfl|rfl
    ·simp only[Option.map_some,hgg];rw[if_pos hcs,e3,e4];exact⟨_,rfl,O.FG A _ h rfl (fun _ _ _=>rfl) O.ext⟩
    ·simp only[Option.map_some,hgg];rw[if_pos ⟨hcs,trivial⟩,e3,e4];exact⟨_,rfl,O.FG A _ (h.upd g .dead) rfl (fun k _ hne=>by rw[Heap.bF _ _ _ _ hlt,if_neg (fun e=>hne (by rw[e]))]) ⟨O.ext.1,fun k hk=>by rw[Heap.bF _ _ _ _ hlt,if_neg (by omega)];exact O.ext.2 k hk⟩⟩
  ·have:=k (some h.size) (some s) [] h1 (fun e=>by cases e) (.inr rfl) q;unfold stV at this;rw[List.append_nil,List.length_append] at this;exact this
theorem Ih {α:Type}{enc:α->Value}{l J:List α}{g:Nat}{tg:Option Nat}{t e:TypeId}{x hi:Operand}{s k:Nat}{ki:IntKind}{K:Value->Prop} (hu:P.underlying t=some (.slice e)) (hs:aQ P e=some s) (hx:ρ x=stV enc (some g) tg l J) (ht:tg=none\/tg=some s) (hhi:ρ hi=.int ki (Int.ofNat k)) (hk:k<=l.length)
  (kk:K (stV enc (some g) tg (l.take k) (l.drop k++J))):∃ v,aq P ρ { dst:=d,op:=.slice t x none (some hi) none,type:=ty,pos:=pos,after:=af,guard:=gd }=some v/\K v:=by
 refine⟨_,?_,kk⟩
 have e1:((l.take k)++(l.drop k++J)).length=(l++J).length:=by rw[<- List.append_assoc,List.take_append_drop]
 unfold stV;rw[e1,List.length_take,Nat.min_eq_left hk];have hb:bnd (.int ki (Int.ofNat k)) (l++J).length=some k:=if_pos ⟨Int.natCast_nonneg _,Int.ofNat_le.2 (by rw[List.length_append];omega)⟩
 have hbn:fa l.length (l++J).length none (some (.int ki (Int.ofNat k))) none=some (0,k,(l++J).length):=by
  show (match bnd (.int ki (Int.ofNat k)) (l++J).length with|none=>none|some h=>some (0,h,(l++J).length))=_
  rw[hb]
 unfold aq;simp only[hu,hx,stV,Option.map_some,hs,Option.map_none,hhi,hbn]
 rcases ht with rfl|rfl <;> simp
theorem Jw {α:Type}{enc:α->Value} (l J:List α) (k:Nat):flatC ((l++J).map enc)=flatC (((l.take k)++(l.drop k++J)).map enc):=by rw[<- List.append_assoc,List.take_append_drop]
theorem Ic {α:Type}{l J:List α}{i:Nat}{x:α} (h:l[i]?=some x):(l++J)[i]?=some x:=by
 rw[List.getElem?_append_left (ag h)];exact h
theorem Fe {α:Type}{l J:List α}{a:Option Nat} (ha:a=none->l++J=[]) {i:Nat}{x:α} (h:l[i]?=some x):∃ g,a=some g:=by
 cases a with
 |none =>
  have:=ha rfl;rw[(List.append_eq_nil_iff.1 this).1] at h
  cases h
 |some g=>exact⟨g,rfl⟩
end Go.Abs
