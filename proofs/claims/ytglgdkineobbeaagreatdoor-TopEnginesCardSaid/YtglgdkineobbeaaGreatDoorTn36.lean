/- Parts of the proof. -/
import Derived.Test.YtglgdkineobbeaaGreatDoorTn34
open BitVec renaming ofInt->NN,ofInt_natCast->Ps,toNat_ofNat->Pg
open Go.IntKind renaming u64->Oj
open Go.Op renaming shift->QF
open Go.Value renaming int->O5,oneCell'->MV
open Go.Value.int renaming injEq->N5
open Int renaming ofNat->LQ
namespace Go.Abs
variable {P:Program} {ρ:Operand->Value} {d:Option Tmp} {ty:TypeId} {pos:String} {af:Array Edge} {gd:Option (Nat×Bool)}
theorem IA(m j:Nat)(hj:j<=63):cq P (QF .shr .u64 (LQ m) .u64 (LQ j))=some (.int .u64 (LQ (m/2^j))):=by
 unfold QF
 have h0:¬ (LQ j<0):=by simp only[L4];omega
 rw[if_neg h0]
 have h1:min (LQ j).toNat Oj.bits=j:=by
  show min j 64=j
  omega
 simp only[h1]
 show some (O5 .u64 ((LQ m).fdiv (2^j)))=_
 rw[QH _ (by exact Int.pow_nonneg (by decide))];congr 2
theorem CF{t yt:TypeId}{x y:Operand}{a b:Nat}{W:Prop}{K:Value->Prop}(hm:b<=63/\W)(k:W->K (.int .u64 (LQ (a/2^b))))(hx:ρ x=.int .u64 (LQ a):=by exact rfl)(hy:ρ y=.int .u64 (LQ b):=by exact rfl) :
 ∃v,aC P ρ { dst:=d,op:=.binOp .shr t x y yt,type:=ty,pos:=pos,after:=af,guard:=gd }=some v/\K v:=⟨_,JR (.inr rfl) hx hy (IA a b hm.1),k hm.2⟩
theorem FY(a k m:Nat)(hm:m+1=2^k)(hk:k<=8):Oj.wrap ((NN 64 (LQ a) &&& NN 64 (LQ m)).toNat:Nat)=LQ (a%2^k):=by
 have h8:2^k<=2^8:=Nat.pow_le_pow_right (by decide) hk
 have e1:(NN 64 (LQ m)).toNat=m:=by
  simp only[L4,Ps,Pg];exact Om (by omega)
 have e2:(NN 64 (LQ a)).toNat=a%2^64:=by
  simp only[L4,Ps,Pg]
 rw[BitVec.toNat_and,e1,e2,show m=2^k-1 by omega,Qe,Nat.mod_mod_of_dvd _ (Nat.pow_dvd_pow 2 (by omega))];have hlt:a%2^k<2^k:=NV _ (Nat.two_pow_pos k);exact pA (by omega)
theorem Ag{t yt:TypeId}{x y:Operand}{a:Nat}(k m:Nat){K:Value->Prop}(kk:K (.int .u64 (LQ (a%2^k))))(hx:ρ x=.int .u64 (LQ a):=by exact rfl)(hy:ρ y=.int .u64 (LQ m):=by exact rfl)(hm:m+1=2^k:=by decide)(hk:k<=8:=by decide) :
  ∃v,aC P ρ { dst:=d,op:=.binOp .and t x y yt,type:=ty,pos:=pos,after:=af,guard:=gd }=some v/\K v:=by
 refine⟨_,AL (.inl rfl) hx hy ?_,kk⟩;unfold Op.intBits
 show some (O5 .u64 (Oj.wrap ((NN 64 (LQ a) &&& NN 64 (LQ m)).toNat:Nat)))=_
 rw[FY a k m hm hk]
theorem zu{t yt:TypeId}{x y:Operand}{a b:Nat}(hx:ρ x=.int .u64 (LQ a))(hy:ρ y=.int .u64 (LQ b))(hb:a+b<2^64) :
  aC P ρ { dst:=d,op:=.binOp .add t x y yt,type:=ty,pos:=pos,after:=af,guard:=gd }=some (.int .u64 (LQ (a+b))):=by
 refine zO hx hy ?_;simp only[fF,LR,N5,true_and];exact pA hb
theorem Ch{P:Program}{kt:TypeId}{kd:TypeDesc}{k k':Value}{b:Bool}{xs ys:List Value}(hk:gK kd=false)(he:nW P kt k k'=some b)(hy:k=.agg ⟨ys⟩)(hx:k'=.agg ⟨xs⟩)(h1:b=true->tw xs ys=true):fo P kt kd k k'=some b:=by
 subst hx hy;unfold fo;rw[hk];dsimp only;rw[he]
 cases b with
 |false=>rfl
 |true =>
  dsimp only;rw[h1 rfl]
theorem CodeS.zr{N:Nat}{B:List AObj}{h0 h:Heap}{L:List Slot}{c:Code}{e:Env}{K:X->Env->Heap->Prop}(O:Own B h0 L h){gl:Nat}{cs:List Value}{ro:Bool}{f:Slot->List Slot}(A:At (some gl,.cells cs ro) L f)
  {t2:Nat} {v:Value} (ht2:Nat.blt t2 e.n=true) (hv2:e.get t2=.pointer (some ⟨gl,0,none⟩)) (hv:cl v=cs)
  (k:∀h,Own B h0 (f (some gl,.cells cs true)) h->qO e (some t2) (FP v) λe=>CodeS P N c e h K):CodeS P N c e h K:=by
 have hg:=O.at A.mem;have u:=Upd.upd (.cells cs true) (Heap.ai hg);have O1:=O.upd A u;refine⟨λhM hok=>?_⟩;obtain⟨x,e1,h1,hc,hk⟩:=(iA.1 (k _ O1)).spec hM (by rw[Env.er];exact hok);refine⟨x,e1,h1,⟨⟨by have:=hc.1.1;rw[u.size] at this;exact this,by rw[hc.1.2,Env.er]⟩,λι w a H r=>?_⟩,hk⟩;obtain⟨l2,e2'⟩:=xu r (Mq ht2) hv2;obtain⟨ι2,H2,S2⟩:=jQ H e2' hg;have r4:ERel ι2 e a:=r.mono S2.ext
 have hvv:VLe (h.upd gl (.cells cs true)) (.pointer (some ⟨gl,0,none⟩)) (FP v):=by
  refine VLe.fp u.get (by rw[hv];omega) ?_;rw[hv,M0,Ng];exact LLe.refl _ _
 have r5:ERel ι2 (e.put (some t2) (FP v)) a:=⟨r4.defers,by rw[Env.er];exact r4.size,λt ht=>by
  rw[Env.er] at ht;have:=r4.get t ht
  show VRel ι2 ((e.set t2 (FP v)).get t) _
  rw[Env.dq];by_cases q:t=t2
  .subst q;rw[if_pos rfl];rw[hv2] at this;exact hvv N ι2 w _ H2 this
  .rw[if_neg q];exact this⟩
 refine wp_mono (hc.2 ι2 w a H2 r5) ?_;rintro x' a' w' ⟨rfl,ι',r',H',S⟩;exact⟨rfl,ι',r',H',S2.trans S⟩
theorem CodeS.yY{N:Nat}{B:List AObj}{h0 h:Heap}{L:List Slot}{c:Code}{e:Env}{K:X->Env->Heap->Prop}(O:Own B h0 L h){gl:Nat}{cs:List Value}{ro:Bool}{f:Slot->List Slot}(A:At (some gl,.cells cs ro) L f)
  (t2:Nat) (ht2:Nat.blt t2 e.n=true) (hv2:e.get t2=.pointer (some ⟨gl,0,none⟩))
  (k:∀h,Own B h0 (f (some gl,.cells cs true)) h->qO e (some t2) (FP (.agg ⟨cs⟩)) λe=>CodeS P N c e h K):CodeS P N c e h K :=
 CodeS.zr O A ht2 hv2 rfl k
def stV{α:Type}(_enc:α->Value)(a t:Option Nat)(l J:List α):Value:=.slice (a.map λg=>⟨g,0,t⟩) l.length (l++J).length
variable {N:Nat} {B:List AObj} {h0 h:Heap} {L:List Slot}
theorem Own.Fy{a:Option Nat}{o:AObj}{f:Slot->List Slot}(O:Own B h0 L h)(A:At (a,o) L f)(o':AObj)(hd:Heap)(hsz':hd.size=h.size)(hget:∀k,h0.size<=k->a≠some k->hd.get k=h.get k)(hext:Ext h0 hd):Own B h0 (f (some h.size,o')) (hd.push o'):=by
 refine⟨O.base,hext.trans ⟨NB _,λg hg=>by rw[Heap.bq,if_neg (by omega)]⟩,λk x m=>?_,A.apart O.apart λx m hx=>?_⟩
 .have key:∀{L:List Slot} {f:Slot->List Slot},At (a,o) L f->L.Pairwise lr->(some k,x)∈f (some h.size,o')->(k=h.size/\x=o')\/(a≠some k/\(some k,x)∈L):=by
   intro L f a
   induction a with
   |head L =>
    intro ha m
    rcases MF.1 m with m|m
    .cases m;exact .inl ⟨rfl,rfl⟩
    .exact .inr ⟨λe=>(MU.1 ha).1 _ m k e rfl,.tail _ m⟩
   |tail r a ih =>
    intro ha m;have hap:=(MU.1 ha).1 _ a.mem
    rcases MF.1 m with m|m
    .refine .inr ⟨λe=>?_,by rw[m];exact .head _⟩;subst m;exact hap k rfl e
    .rcases ih (MU.1 ha).2 m with q|⟨q1,q2⟩
     .exact .inl q
     .exact .inr ⟨q1,.tail _ q2⟩
  rcases key A O.apart m with⟨rfl,rfl⟩|⟨q1,q2⟩
  .exact⟨O.ext.1,by rw[Heap.bq,if_pos hsz'.symm]⟩
  .obtain⟨r1,r2⟩:=O.get k x q2;have:=Heap.ai r2;exact⟨r1,by rw[Heap.bq,if_neg (by omega),hget k r1 q1];exact r2⟩
 .by_cases q:x.1=some h.size
  .exfalso;obtain⟨x1,x2⟩:=x;simp only at q;subst q;have:=Heap.ai (O.get _ _ m).2;omega
  .refine .inl ⟨λg e e'=>?_,λg e e'=>?_⟩
   .cases e;exact q e'
   .cases e';exact q e
theorem Own.sO{ts:TypeId}{a x:Operand}{g off:Nat}{cs l:List Value}{f:Slot->List Slot}{K:Value->Heap->Prop}(O:Own B h0 L h)(n:Nat)(A:At (some g,.cells cs false) L f)(k:∀h1,Ext h h1->Own B h0 L h1->K undef h1)
  (ha:ρ a=.pointer (some ⟨g,off,none⟩):=by exact rfl) (hs:bb P ts=some n:=by exact rfl) (hx:cl (ρ x)=l:=by exact rfl) (hl:l.length=n:=by exact rfl) (hle:Nat.ble (off+n) cs.length=true:=by exact rfl) (h1:l.all MV=true:=by exact rfl) (hcs:bJ cs off l=cs:=by exact rfl) :
  ∃(v:Value) (T:Heap->Prop),(∃h',cZ P ρ { dst:=d,op:=.store ts a x,type:=ty,pos:=pos,after:=af,guard:=gd } h=some (v,h')/\T h')/\∀h1,T h1->K v h1:=by
 have hg:=O.at A.mem;refine GZ ha hg hs hx hl (Mq hle) h1 λh1 u=>?_;rw[hcs] at u;have q:=O.upd A u;rw[A.same] at q;refine k h1 ⟨RT u.size.symm,λm hm=>?_⟩ q;by_cases e:m=g
 .subst e;rw[hg];exact (q.get _ _ A.mem).2
 .exact u.other m e
theorem Own.J2{α:Type}{enc:α->Value}{l new J:List α}{ts tx te:TypeId}{dx:TypeDesc}{x y:Operand}{s b:Nat}{a t:Option Nat}{z:Value}{f:Slot->List Slot}{K:Value->Heap->Prop}(O:Own B h0 L h)(A:At (a,.cells (ah ((l++J).map enc)) false) L f)(ha:a=none->l++J=[])(ht:t=none\/t=some s)
  (hts:P.underlying ts=some (.slice te)) (htx:P.underlying tx=some dx) (hni:fh dx=true) (hs:bb P te=some s) (hb:kH P te=some b) (hz:zeroOf P te=some z) (hzs:z.cells.size=s)
  (hx:ρ x=stV enc a t l J) (hy:YOk h s (ρ y) enc new) (hsz:∀x:α,(cl (enc x)).length=s) (hone:∀x:α,(cl (enc x)).all MV=true)
  (hb0:0<b) (hlim:(l.length+new.length)*b<=2^47)
  (k:∀a' t' J' h1,(a'=none->(l++new)++J'=[])->(t'=none\/t'=some s)->Own B h0 (f (a',.cells (ah (((l++new)++J').map enc)) false)) h1->K (stV enc a' t' (l++new) J') h1) :
  ∃(v:Value) (T:Heap->Prop),(∃h',cZ P ρ { dst:=d,op:=.call { callee:=.builtin .append,args := #[x,y],argTypes := #[ts,tx] },type:=ty,pos:=pos,after:=af,guard:=gd } h=some (v,h')/\T h')/\∀h1,T h1->K v h1:=by
 have hy0:=hy.len;have hf0:=hy.first;unfold cZ fa;simp only[MM,ND,hx,stV,hts,htx,hni,if_true,hs,hb,hz,hy0,hf0];unfold dI;by_cases hm0:new.length=0
 .have hn:new=[]:=M3 hm0;subst hn;rw[if_pos (show ([]:List α).length=0 from rfl),if_pos ⟨by simp[ah],by rw[Ml];omega⟩];refine⟨_,λh1=>h1=h,⟨h,rfl,rfl⟩,λh1 e=>?_⟩;subst e;have:=k a t J h1 (by rw[MZ];exact ha) ht (by rw[MZ,A.same];exact O);rw[MZ] at this;exact this
 rw[if_neg hm0];by_cases hroom:l.length+new.length<=(l++J).length
 .rw[if_pos hroom]
  cases a with
  |none =>
   have:=ha rfl;rw[this] at hroom;simp only[N4] at hroom;omega
  |some g =>
   obtain⟨hgs,hgg⟩:=O.get g _ A.mem;simp only[MI,hgg]
   have hle:0+l.length*s+(ah (new.map enc)).length<=(ah ((l++J).map enc)).length:=by
    rw[bn hsz,bn hsz];have:(l.length+new.length)*s<=(l++J).length*s:=MY s hroom;rw[Nk] at this;omega
   rw[if_pos ⟨.inl hle,wO hone _⟩,lu hsz (l++J) l.length new hroom]
   have e1:(l++J).take l.length++(new++(l++J).drop (l.length+new.length))=(l++new)++J.drop new.length:=by
    rw[List.take_left,MC];congr 2;rw[Q2];have:l.drop (l.length+new.length)=[]:=NL (by omega);rw[this,OO,Q6]
   rw[e1];have u:=Upd.upd (h:=h) (g:=g) (.cells (ah (((l++new)++J.drop new.length).map enc)) false) (Heap.ai hgg);refine⟨_,λh1=>Own B h0 (f (some g,.cells (ah (((l++new)++J.drop new.length).map enc)) false)) h1,⟨_,rfl,O.upd A u⟩,λh1 q=>?_⟩;have:=k (some g) t (J.drop new.length) h1 (λe=>by cases e) ht q
   have e2:((l++new)++J.drop new.length).length=(l++J).length:=by
    rw[Ml] at hroom;simp only[Ml,No];omega
   unfold stV at this;rw[e2,Ml] at this;exact this
 .have hlen:(ah (new.map enc)).length=new.length*s:=bn hsz new;rw[if_neg hroom,if_pos ⟨hb0,hlim,hzs,hlen,wO hone _⟩]
  have e3:((ah ((l++J).map enc)).drop 0).take (l.length*s)=ah (l.map enc):=by
   rw[M0,MT,ck,N0 (by rw[bn hsz];exact LV _),<- bn hsz l,Ng]
  have e4:ah (l.map enc)++ah (new.map enc)=ah (((l++new)++[]).map enc):=by
   rw[MZ,MT,ck]
  have hcs:0+l.length*s<=(ah ((l++J).map enc)).length:=by
   rw[bn hsz,Ml,Nu];exact MY s (by omega)
  refine⟨.slice (some ⟨h.size,0,some s⟩) (l.length+new.length) (l.length+new.length),λh1=>Own B h0 (f (some h.size,.cells (ah (((l++new)++[]).map enc)) false)) h1,?_,λh1 q=>?_⟩
  .cases a with
   |none =>
    have q:=ha rfl;have hl:l=[]:=(P0.1 q).1;have hJ:J=[]:=(P0.1 q).2;subst hl hJ;refine⟨_,rfl,?_⟩;have:=O.Fy A (.cells (ah (([]++new++[]).map enc)) false) h rfl (λ_ _ _=>rfl) O.ext;simpa using this
   |some g =>
    obtain⟨hgs,hgg⟩:=O.get g _ A.mem;have hlt:=Heap.ai hgg
    rcases ht with rfl|rfl
    .simp only[MI,hgg];rw[if_pos hcs,e3,e4];exact⟨_,rfl,O.Fy A _ h rfl (λ_ _ _=>rfl) O.ext⟩
    .simp only[MI,hgg];rw[if_pos ⟨hcs,trivial⟩,e3,e4];exact⟨_,rfl,O.Fy A _ (h.upd g .dead) rfl (λk _ hne=>by rw[Heap.cc _ _ _ _ hlt,if_neg (λe=>hne (by rw[e]))]) ⟨O.ext.1,λk hk=>by rw[Heap.cc _ _ _ _ hlt,if_neg (by omega)];exact O.ext.2 k hk⟩⟩
  .have:=k (some h.size) (some s) [] h1 (λe=>by cases e) (.inr rfl) q;unfold stV at this;rw[MZ,Ml] at this;exact this
theorem K3{α:Type}{enc:α->Value}{l J:List α}{g:Nat}{tg:Option Nat}{t e:TypeId}{x hi:Operand}{s k:Nat}{ki:IntKind}{K:Value->Prop}(hu:P.underlying t=some (.slice e))(hs:bb P e=some s)(hx:ρ x=stV enc (some g) tg l J)(ht:tg=none\/tg=some s)(hhi:ρ hi=.int ki (LQ k))(hk:k<=l.length)
  (kk:K (stV enc (some g) tg (l.take k) (l.drop k++J))):∃v,aC P ρ { dst:=d,op:=.slice t x none (some hi) none,type:=ty,pos:=pos,after:=af,guard:=gd }=some v/\K v:=by
 refine⟨_,?_,kk⟩
 have e1:((l.take k)++(l.drop k++J)).length=(l++J).length:=by rw[<- MC,Na]
 unfold stV;rw[e1,L8,Nb hk];have hb:bnd (.int ki (LQ k)) (l++J).length=some k:=if_pos ⟨MN _,Pf.2 (by rw[Ml];omega)⟩
 have hbn:il l.length (l++J).length none (some (.int ki (LQ k))) none=some (0,k,(l++J).length):=by
  show (match bnd (.int ki (LQ k)) (l++J).length with|none=>none|some h=>some (0,h,(l++J).length))=_
  rw[hb]
 unfold aC;simp only[hu,hx,stV,MI,hs,Oi,hhi,hbn]
 rcases ht with rfl|rfl <;> simp
theorem LN{α:Type}{enc:α->Value}(l J:List α)(k:Nat):ah ((l++J).map enc)=ah (((l.take k)++(l.drop k++J)).map enc):=by rw[<- MC,Na]
theorem K5{α:Type}{l J:List α}{i:Nat}{x:α}(h:l[i]?=some x):(l++J)[i]?=some x:=by
 rw[Mb (ai h)];exact h
theorem Kd{α:Type}{l J:List α}{a:Option Nat}(ha:a=none->l++J=[]){i:Nat}{x:α}(h:l[i]?=some x):∃g,a=some g:=by
 cases a with
 |none =>
  have:=ha rfl;rw[(P0.1 this).1] at h
  cases h
 |some g=>exact⟨g,rfl⟩
end Go.Abs
