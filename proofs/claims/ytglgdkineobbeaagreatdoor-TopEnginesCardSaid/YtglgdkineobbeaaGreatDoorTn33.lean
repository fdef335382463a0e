/- Parts of the proof. -/
import Derived.Test.YtglgdkineobbeaaGreatDoorTn32
open Go.Region renaming wanted->Mz
open Go.Value.int renaming injEq->N5
namespace Go.Abs
structure RegFS (P:Program) (N:Nat) (ops:Array Oper) (h0:Heap) (l:List Oper) (k:Nat) (e:Env) (h:Heap) (K:Env->Heap->Prop):Prop where
 spec:∃e1 h1,jR P N ops h0 true l k e h e1 h1/\K e1 h1
def HM(o:Oper)(e:Env)(K:Value->Heap->Prop)(v:Value)(h1:Heap):Prop :=
 match cls o.op with
 |.read=>dj e.eval o=true/\K v h1
 |_=>K v h1
def B0(P:Program)(N:Nat)(ops:Array Oper)(h0:Heap)(l:List Oper)(k:Nat)(e:Env)(h:Heap)(K:Env->Heap->Prop):Prop :=
 match l with
 |[]=>K e h
 |o::r=>match Mz o (aQ ops e) with
  |true=>match isLen o.op with
   |true=>∃v,aC P e.eval o=some v/\pT (fm ops k) e o.dst v λe=>RegFS P N ops h0 r (k+1) e h K
   |false=>opG P N o e h (HM o e λv h=>pT (fm ops k) e o.dst v λe=>RegFS P N ops h0 r (k+1) e h K)
  |false=>qO e o.dst undef λe=>RegFS P N ops h0 r (k+1) e h K
theorem Hf{P:Program}{N:Nat}{ops:Array Oper}{h0:Heap}{l:List Oper}{k:Nat}{e:Env}{h:Heap}{K:Env->Heap->Prop}(hk:B0 P N ops h0 l k e h K):RegFS P N ops h0 l k e h K:=by
 unfold B0 at hk;split at hk
 .exact⟨e,h,⟨rfl,rfl⟩,hk⟩
 .rename_i o r;split at hk
  .rename_i hw;split at hk
   .rename_i hl;obtain⟨v,hv,hk⟩:=hk;obtain⟨e2,h2,hr,hk⟩:=(iT hk).spec;refine⟨e2,h2,?_,hk⟩;unfold jR;rw[if_pos hw];refine⟨v,h,⟨OpD.pure (eo hl) hv,?_,?_⟩,hr⟩
    .intro q;unfold aW at q;rw[eo hl] at q;cases q
    .intro q;unfold dp at q;rw[eo hl] at q;cases q
   .obtain⟨v,h1,hd,hk⟩:=rV hk
    have key:((dp o=true->dj e.eval o=true))/\(pT (fm ops k) e o.dst v λe=>RegFS P N ops h0 r (k+1) e h1 K):=by
     unfold HM at hk;unfold dp
     cases hc:cls o.op <;> simp only[hc] at hk ⊢
     case read=>exact⟨λ_=>hk.1,hk.2⟩
     all_goals exact⟨by simp,hk⟩
    obtain⟨c2,hk⟩:=key;obtain⟨e2,h2,hr,hk⟩:=(iT hk).spec;refine⟨e2,h2,?_,hk⟩;unfold jR;rw[if_pos hw];exact⟨v,h1,⟨hd,λ_=>.inl rfl,λq=>⟨λ_=>c2 q,.inl rfl⟩⟩,hr⟩
  .rename_i hw;obtain⟨e2,h2,hr,hk⟩:=(iA.1 hk).spec;refine⟨e2,h2,?_,hk⟩;unfold jR;rw[if_neg (by rw[hw];simp)];exact hr
structure RegKS (P:Program) (N:Nat) (ops:Array Oper) (h0:Heap) (l:List Oper) (k:Nat) (e:Env) (h:Heap) (K:Env->Heap->Prop):Prop where
 spec:∃e1 h1,jR P N ops h0 false l k e h e1 h1/\K e1 h1
def Gv(P:Program)(ops:Array Oper)(h0:Heap)(k:Nat)(o:Oper)(e:Env)(h:Heap)(K:Value->Heap->Prop)(v:Value)(h1:Heap):Prop :=
 match cls o.op with
 |.read=>(plain v=true\/jk ops k=true\/bp P e.eval o h0=some v)/\K v h1
 |.eff=>(eO ops k=true\/Ext h h1\/oT ops k e h h1)/\K v h1
 |.call=>(eO ops k=true\/Ext h h1\/oT ops k e h h1)/\K v h1
 |_=>K v h1
def Az(P:Program)(N:Nat)(ops:Array Oper)(h0:Heap)(l:List Oper)(k:Nat)(e:Env)(h:Heap)(K:Env->Heap->Prop):Prop :=
 match l with
 |[]=>K e h
 |o::r=>match Mz o (aQ ops e) with
  |true=>match isLen o.op with
   |true=>∃v,aC P e.eval o=some v/\pT (fm ops k) e o.dst v λe=>RegKS P N ops h0 r (k+1) e h K
   |false=>opG P N o e h (Gv P ops h0 k o e h λv h=>pT (fm ops k) e o.dst v λe=>RegKS P N ops h0 r (k+1) e h K)
  |false=>qO e o.dst undef λe=>RegKS P N ops h0 r (k+1) e h K
theorem Hk{P:Program}{N:Nat}{ops:Array Oper}{h0:Heap}{l:List Oper}{k:Nat}{e:Env}{h:Heap}{K:Env->Heap->Prop}(hk:Az P N ops h0 l k e h K):RegKS P N ops h0 l k e h K:=by
 unfold Az at hk;split at hk
 .exact⟨e,h,⟨rfl,rfl⟩,hk⟩
 .rename_i o r;split at hk
  .rename_i hw;split at hk
   .rename_i hl;obtain⟨v,hv,hk⟩:=hk;obtain⟨e2,h2,hr,hk⟩:=(iT hk).spec;refine⟨e2,h2,?_,hk⟩;unfold jR;rw[if_pos hw];refine⟨v,h,⟨OpD.pure (eo hl) hv,?_,?_⟩,hr⟩
    .intro q;unfold aW at q;rw[eo hl] at q;cases q
    .intro q;unfold dp at q;rw[eo hl] at q;cases q
   .obtain⟨v,h1,hd,hk⟩:=rV hk
    have key:((aW o=true->eO ops k=true\/Ext h h1\/oT ops k e h h1)/\(dp o=true->jk ops k=true\/plain v=true\/bp P e.eval o h0=some v))/\(pT (fm ops k) e o.dst v λe=>RegKS P N ops h0 r (k+1) e h1 K):=by
     unfold Gv at hk;unfold aW dp
     cases hc:cls o.op <;> simp only[hc] at hk ⊢
     .exact⟨⟨by simp,by simp⟩,hk⟩
     .refine⟨⟨by simp,λ_=>?_⟩,hk.2⟩
      rcases hk.1 with q|q|q
      .exact .inr (.inl q)
      .exact .inl q
      .exact .inr (.inr q)
     .exact⟨⟨by simp,by simp⟩,hk⟩
     .exact⟨⟨λ_=>hk.1,by simp⟩,hk.2⟩
     .exact⟨⟨λ_=>hk.1,by simp⟩,hk.2⟩
    obtain⟨⟨c1,c2⟩,hk⟩:=key;obtain⟨e2,h2,hr,hk⟩:=(iT hk).spec;refine⟨e2,h2,?_,hk⟩;unfold jR;rw[if_pos hw];exact⟨v,h1,⟨hd,λq=>.inr (c1 q),λq=>⟨(λe=>by cases e),.inr (c2 q)⟩⟩,hr⟩
  .rename_i hw;obtain⟨e2,h2,hr,hk⟩:=(iA.1 hk).spec;refine⟨e2,h2,?_,hk⟩;unfold jR;rw[if_neg (by rw[hw];simp)];exact hr
section
variable {P:Program} {N:Nat} {B:List AObj} {h0 h:Heap} {L:List Slot}
theorem CodeS.mV{id:Nat}{l:List Oper}{e:Env}{K:X->Env->Heap->Prop}(hk:RegFS P N ⟨l⟩ h l 0 e h (K .normal)):CodeS P N (.region id ⟨l⟩ true) e h K:=by
 refine⟨λhM hok=>?_⟩;simp only[codeOk,L9] at hok;obtain⟨e1,h1,hr,hk⟩:=hk.spec;exact⟨.normal,e1,h1,aN.mV hM (by simpa using hok.2) hok.1 hr,hk⟩
theorem CodeS.sc{id:Nat}{l:List Oper}{e:Env}{K:X->Env->Heap->Prop}(hk:RegKS P N ⟨l⟩ h l 0 e h (K .normal)):CodeS P N (.region id ⟨l⟩ true) e h K:=by
 refine⟨λhM hok=>?_⟩;simp only[codeOk,L9] at hok;obtain⟨e1,h1,hr,hk⟩:=hk.spec;exact⟨.normal,e1,h1,aN.mV hM (by simpa using hok.2) hok.1 hr,hk⟩
theorem CodeS.HK{c:Code}{e:Env}{K:X->Env->Heap->Prop}(O:Own B h0 L h){g gl:Nat}{cs cs2 cs2':List Value}{ro ro2:Bool}{f1 f2:Slot->List Slot}(A1:At (some g,.cells cs ro) L f1)(A2:At (some gl,.cells cs2 ro2) (f1 (some g,.cells cs true)) f2)
  {t2 o1 n1 c1 j:Nat} {sp1:Option Nat} {v:Value} (hj:cs2[j]?=some (.slice (some ⟨g,o1,sp1⟩) n1 c1)) (ht2:Nat.blt t2 e.n=true) (hv2:e.get t2=.pointer (some ⟨gl,0,none⟩))
  (hv:cl v=cs2') (le:∀h2,h2.get g=some (.cells cs true)->LLe h2 cs2 cs2')
  (k:∀h,Own B h0 (f2 (some gl,.cells cs2' true)) h->qO e (some t2) (FP v) λe=>CodeS P N c e h K):CodeS P N c e h K:=by
 have hg:=O.at A1.mem;have u1:=Upd.upd (.cells cs true) (Heap.ai hg);have O1:=O.upd A1 u1;have hg2:=O1.at A2.mem;have u2:=Upd.upd (.cells cs2' ro2) (Heap.ai hg2);have O2:=O1.upd A2 u2;have u3:=Upd.upd (.cells cs2' true) (Heap.ai u2.get);have u23:Upd (h.upd g (.cells cs true)) gl (.cells cs2' true) (((h.upd g (.cells cs true)).upd gl (.cells cs2' ro2)).upd gl (.cells cs2' true)):=⟨u3.get,λk hk=>by rw[u3.other k hk,u2.other k hk],by rw[u3.size,u2.size]⟩;have O3:=O1.upd A2 u23;refine⟨λhM hok=>?_⟩;obtain⟨x,e1,h1,hc,hk⟩:=(iA.1 (k _ O3)).spec hM (by rw[Env.er];exact hok);refine⟨x,e1,h1,⟨⟨by have:=hc.1.1;rw[u3.size,u2.size,u1.size] at this;exact this,by rw[hc.1.2,Env.er]⟩,λι w a H r=>?_⟩,hk⟩;obtain⟨l2,e2'⟩:=xu r (Mq ht2) hv2
 have hmap:∃l,ι g=some l:=by
  have hgl:∃r3,h.get gl=some (.cells cs2 r3):=by
   by_cases q:gl=g
   .subst q;have:=u1.get;rw[this] at hg2
    cases hg2
    exact⟨_,hg⟩
   .exact⟨ro2,by rw[<- u1.other gl q];exact hg2⟩
  obtain⟨r3,hgl⟩:=hgl;obtain⟨C,ty,fr,_,_,_,_,c5⟩:=H.obj gl l2 _ e2' hgl;obtain⟨v',_,d2⟩:=c5 j _ hj
  cases d2 with
  |slice _ _ _ _ _ l0 q=>exact⟨l0,q⟩
  |sliceOpen _ _ _ _ _ _ _ l0 q=>exact⟨l0,q⟩
 obtain⟨l1,e1'⟩:=hmap;obtain⟨ι2,H2,S2⟩:=jQ H e1' hg;have e2'':=S2.ext.at_ _ _ e2';have H3:=H2.nk hg2 (le _ u1.get);have S3:=Step.nk H2 e2'' hg2 (cs':=cs2');obtain⟨ι4,H4,S4⟩:=jQ H3 e2'' u2.get;have r4:ERel ι4 e a:=(r.mono S2.ext).mono S4.ext
 have hvv:VLe (((h.upd g (.cells cs true)).upd gl (.cells cs2' ro2)).upd gl (.cells cs2' true)) (.pointer (some ⟨gl,0,none⟩)) (FP v):=by
  refine VLe.fp u3.get (by rw[hv];omega) ?_;rw[hv,M0,Ng];exact LLe.refl _ _
 have r5:ERel ι4 (e.put (some t2) (FP v)) a:=⟨r4.defers,by rw[Env.er];exact r4.size,λt ht=>by
  rw[Env.er] at ht;have:=r4.get t ht
  show VRel ι4 ((e.set t2 (FP v)).get t) _
  rw[Env.dq];by_cases q:t=t2
  .subst q;rw[if_pos rfl];rw[hv2] at this;exact hvv N ι4 w _ H4 this
  .rw[if_neg q];exact this⟩
 refine wp_mono (hc.2 ι4 w a H4 r5) ?_;rintro x' a' w' ⟨rfl,ι',r',H',S⟩;exact⟨rfl,ι',r',H',((S2.trans S3).trans S4).trans S⟩
theorem KQ{ρ:Operand->Value}{d:Option Tmp}{ty:TypeId}{pos:String}{af:Array Edge}{gd:Option (Nat×Bool)}{t yt:TypeId}{x y:Operand}{a b:Int}(hx:ρ x=.int .i64 a)(hy:ρ y=.int .i64 b)(h1 : -(2^63)<=a-b)(h2:a-b<2^63) :
  aC P ρ { dst:=d,op:=.binOp .sub t x y yt,type:=ty,pos:=pos,after:=af,guard:=gd }=some (.int .i64 (a-b)):=by
 refine zO hx hy ?_;simp only[fF,LR,N5,true_and];rw[IntWalk.i64_in _ (by omega)]
end
end Go.Abs
