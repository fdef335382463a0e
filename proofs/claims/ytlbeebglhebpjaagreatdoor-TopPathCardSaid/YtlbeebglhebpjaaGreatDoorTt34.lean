/-
  AbsXv: parts of the proof.
-/
import Derived.Test.YtlbeebglhebpjaaGreatDoorTt33
namespace Go.Abs
structure RegFS (P:Program) (N:Nat) (ops:Array Oper) (h0:Heap) (l:List Oper) (k:Nat) (e:Env) (h:Heap) (K:Env->Heap->Prop):Prop where
 spec:∃ e1 h1,RegF P N ops h0 true l k e h e1 h1/\K e1 h1
def zV (o:Oper) (e:Env) (K:Value->Heap->Prop) (v:Value) (h1:Heap):Prop :=
 match cls o.op with
 |.read=>ch e.eval o=true/\K v h1
 |_=>K v h1
def wA (P:Program) (N:Nat) (ops:Array Oper) (h0:Heap) (l:List Oper) (k:Nat) (e:Env) (h:Heap) (K:Env->Heap->Prop):Prop :=
 match l with
 |[]=>K e h
 |o::r=>match Region.wanted o (ayielded ops e) with
  |true=>match isLen o.op with
   |true=>∃ v,av P e.eval o=some v/\lG (cZ ops k) e o.dst v fun e=>RegFS P N ops h0 r (k+1) e h K
   |false=>opG P N o e h (zV o e fun v h=>lG (cZ ops k) e o.dst v fun e=>RegFS P N ops h0 r (k+1) e h K)
  |false=>mc e o.dst undef fun e=>RegFS P N ops h0 r (k+1) e h K
theorem Hf {P:Program}{N:Nat}{ops:Array Oper}{h0:Heap}{l:List Oper}{k:Nat}{e:Env}{h:Heap}{K:Env->Heap->Prop} (hk:wA P N ops h0 l k e h K):RegFS P N ops h0 l k e h K:=by
 unfold wA at hk
 split at hk
 ·exact⟨e,h,⟨rfl,rfl⟩,hk⟩
 ·rename_i o r
  split at hk
  ·rename_i hw
   split at hk
   ·rename_i hl
    obtain⟨v,hv,hk⟩:=hk
    obtain⟨e2,h2,hr,hk⟩:=(eX hk).spec
    refine⟨e2,h2,?_,hk⟩
    unfold RegF
    rw[if_pos hw]
    refine⟨v,h,⟨OpD.pure (cM hl) hv,?_,?_⟩,hr⟩
    ·intro q;unfold isChain at q;rw[cM hl] at q;cases q
    ·intro q;unfold cn at q;rw[cM hl] at q;cases q
   ·obtain⟨v,h1,hd,hk⟩:=nA hk
    have key:((cn o=true->ch e.eval o=true))/\(lG (cZ ops k) e o.dst v fun e=>RegFS P N ops h0 r (k+1) e h1 K):=by
     unfold zV at hk
     unfold cn
     cases hc:cls o.op <;> simp only[hc] at hk ⊢
     case read=>exact⟨fun _=>hk.1,hk.2⟩
     all_goals exact⟨by simp,hk⟩
    obtain⟨c2,hk⟩:=key
    obtain⟨e2,h2,hr,hk⟩:=(eX hk).spec
    refine⟨e2,h2,?_,hk⟩
    unfold RegF
    rw[if_pos hw]
    exact⟨v,h1,⟨hd,fun _=>.inl rfl,fun q=>⟨fun _=>c2 q,.inl rfl⟩⟩,hr⟩
  ·rename_i hw
   obtain⟨e2,h2,hr,hk⟩:=(ez.1 hk).spec
   refine⟨e2,h2,?_,hk⟩
   unfold RegF
   rw[if_neg (by rw[hw];simp)]
   exact hr
structure RegKS (P:Program) (N:Nat) (ops:Array Oper) (h0:Heap) (l:List Oper) (k:Nat) (e:Env) (h:Heap) (K:Env->Heap->Prop):Prop where
 spec:∃ e1 h1,RegF P N ops h0 false l k e h e1 h1/\K e1 h1
def zO (P:Program) (ops:Array Oper) (h0:Heap) (k:Nat) (o:Oper) (e:Env) (h:Heap) (K:Value->Heap->Prop) (v:Value) (h1:Heap):Prop :=
 match cls o.op with
 |.read=>(plain v=true\/fP ops k=true\/aJ P e.eval o h0=some v)/\K v h1
 |.eff=>(cQ ops k=true\/Ext h h1\/km ops k e h h1)/\K v h1
 |.call=>(cQ ops k=true\/Ext h h1\/km ops k e h h1)/\K v h1
 |_=>K v h1
def wj (P:Program) (N:Nat) (ops:Array Oper) (h0:Heap) (l:List Oper) (k:Nat) (e:Env) (h:Heap) (K:Env->Heap->Prop):Prop :=
 match l with
 |[]=>K e h
 |o::r=>match Region.wanted o (ayielded ops e) with
  |true=>match isLen o.op with
   |true=>∃ v,av P e.eval o=some v/\lG (cZ ops k) e o.dst v fun e=>RegKS P N ops h0 r (k+1) e h K
   |false=>opG P N o e h (zO P ops h0 k o e h fun v h=>lG (cZ ops k) e o.dst v fun e=>RegKS P N ops h0 r (k+1) e h K)
  |false=>mc e o.dst undef fun e=>RegKS P N ops h0 r (k+1) e h K
theorem Hk {P:Program}{N:Nat}{ops:Array Oper}{h0:Heap}{l:List Oper}{k:Nat}{e:Env}{h:Heap}{K:Env->Heap->Prop} (hk:wj P N ops h0 l k e h K):RegKS P N ops h0 l k e h K:=by
 unfold wj at hk
 split at hk
 ·exact⟨e,h,⟨rfl,rfl⟩,hk⟩
 ·rename_i o r
  split at hk
  ·rename_i hw
   split at hk
   ·rename_i hl
    obtain⟨v,hv,hk⟩:=hk
    obtain⟨e2,h2,hr,hk⟩:=(eX hk).spec
    refine⟨e2,h2,?_,hk⟩
    unfold RegF
    rw[if_pos hw]
    refine⟨v,h,⟨OpD.pure (cM hl) hv,?_,?_⟩,hr⟩
    ·intro q;unfold isChain at q;rw[cM hl] at q;cases q
    ·intro q;unfold cn at q;rw[cM hl] at q;cases q
   ·obtain⟨v,h1,hd,hk⟩:=nA hk
    have key:((isChain o=true->cQ ops k=true\/Ext h h1\/km ops k e h h1)/\(cn o=true->fP ops k=true\/plain v=true\/aJ P e.eval o h0=some v))/\(lG (cZ ops k) e o.dst v fun e=>RegKS P N ops h0 r (k+1) e h1 K):=by
     unfold zO at hk
     unfold isChain cn
     cases hc:cls o.op <;> simp only[hc] at hk ⊢
     ·exact⟨⟨by simp,by simp⟩,hk⟩
     ·refine⟨⟨by simp,fun _=>?_⟩,hk.2⟩
      rcases hk.1 with q|q|q
      ·exact .inr (.inl q)
      ·exact .inl q
      ·exact .inr (.inr q)
     ·exact⟨⟨by simp,by simp⟩,hk⟩
     ·exact⟨⟨fun _=>hk.1,by simp⟩,hk.2⟩
     ·exact⟨⟨fun _=>hk.1,by simp⟩,hk.2⟩
    obtain⟨⟨c1,c2⟩,hk⟩:=key
    obtain⟨e2,h2,hr,hk⟩:=(eX hk).spec
    refine⟨e2,h2,?_,hk⟩
    unfold RegF
    rw[if_pos hw]
    exact⟨v,h1,⟨hd,fun q=>.inr (c1 q),fun q=>⟨(fun e=>by cases e),.inr (c2 q)⟩⟩,hr⟩
  ·rename_i hw
   obtain⟨e2,h2,hr,hk⟩:=(ez.1 hk).spec
   refine⟨e2,h2,?_,hk⟩
   unfold RegF
   rw[if_neg (by rw[hw];simp)]
   exact hr
theorem zQ {ops:Array Oper}{i k:Nat}{e:Env}{h h1:Heap}{t:TypeId}{a g off:Nat}{o:AObj} (hb:pO ops k [i]=true) (hop:(ops[i]?).map (·.op)=some (.load t (.tmp a))) (he:e.get a=.pointer (some ⟨g,off,none⟩)) (hg:h.get g=some o) (hg1:h1.get g=some o):km ops k e h h1:=by
 refine⟨[i],hb,fun i' m x t' a' hx hxo g' off' hv=>?_⟩
 rw[List.mem_singleton] at m
 subst m
 rw[hx] at hop
 simp only[Option.map_some,Option.some.injEq] at hop
 rw[hxo] at hop
 cases hop
 rw[he] at hv
 cases hv
 rw[hg,hg1]
section
variable {P:Program} {N:Nat} {B:List AObj} {h0 h:Heap} {L:List Slot}
theorem CodeS.lN {id:Nat}{l:List Oper}{e:Env}{K:X->Env->Heap->Prop} (hk:RegFS P N ⟨l⟩ h l 0 e h (K .normal)):CodeS P N (.region id ⟨l⟩ true) e h K:=by
 refine⟨fun hM hok=>?_⟩
 simp only[codeOk,Bool.and_eq_true] at hok
 obtain⟨e1,h1,hr,hk⟩:=hk.spec
 exact⟨.normal,e1,h1,CodeD.lN hM (by simpa using hok.2) hok.1 hr,hk⟩
theorem CodeS.Ef {id:Nat}{l:List Oper}{e:Env}{K:X->Env->Heap->Prop} (hk:RegKS P N ⟨l⟩ h l 0 e h (K .normal)):CodeS P N (.region id ⟨l⟩ true) e h K:=by
 refine⟨fun hM hok=>?_⟩
 simp only[codeOk,Bool.and_eq_true] at hok
 obtain⟨e1,h1,hr,hk⟩:=hk.spec
 exact⟨.normal,e1,h1,CodeD.lN hM (by simpa using hok.2) hok.1 hr,hk⟩
theorem CodeS.BQ {c:Code}{e:Env}{K:X->Env->Heap->Prop} (O:Own B h0 L h) {g gl:Nat}{cs cs2 cs2':List Value}{ro ro2:Bool}{f1 f2:Slot->List Slot} (A1:At (some g,.cells cs ro) L f1) (A2:At (some gl,.cells cs2 ro2) (f1 (some g,.cells cs true)) f2)
  {t2 o1 n1 c1 j:Nat} {sp1:Option Nat} {v:Value} (hj:cs2[j]?=some (.slice (some ⟨g,o1,sp1⟩) n1 c1)) (ht2:Nat.blt t2 e.n=true) (hv2:e.get t2=.pointer (some ⟨gl,0,none⟩))
  (hv:cl v=cs2') (le:∀ h2,h2.get g=some (.cells cs true)->LLe h2 cs2 cs2')
  (k:∀ h,Own B h0 (f2 (some gl,.cells cs2' true)) h->mc e (some t2) (FP v) fun e=>CodeS P N c e h K):CodeS P N c e h K:=by
 have hg:=O.at A1.mem
 have u1:=Upd.upd (.cells cs true) (Heap.ak hg)
 have O1:=O.upd A1 u1
 have hg2:=O1.at A2.mem
 have u2:=Upd.upd (.cells cs2' ro2) (Heap.ak hg2)
 have O2:=O1.upd A2 u2
 have u3:=Upd.upd (.cells cs2' true) (Heap.ak u2.get)
 have u23:Upd (h.upd g (.cells cs true)) gl (.cells cs2' true) (((h.upd g (.cells cs true)).upd gl (.cells cs2' ro2)).upd gl (.cells cs2' true)):=⟨u3.get,fun k hk=>by rw[u3.other k hk,u2.other k hk],by rw[u3.size,u2.size]⟩
 have O3:=O1.upd A2 u23
 refine⟨fun hM hok=>?_⟩
 obtain⟨x,e1,h1,hc,hk⟩:=(ez.1 (k _ O3)).spec hM (by rw[Env.eQ];exact hok)
 refine⟨x,e1,h1,⟨⟨by have:=hc.1.1;rw[u3.size,u2.size,u1.size] at this;exact this,by rw[hc.1.2,Env.eQ]⟩,fun ι w a H r=>?_⟩,hk⟩
 obtain⟨l2,e2'⟩:=rG r (Nat.le_of_ble_eq_true ht2) hv2
 have hmap:∃ l,ι g=some l:=by
  have hgl:∃ r3,h.get gl=some (.cells cs2 r3):=by
   by_cases q:gl=g
   ·subst q
    have:=u1.get
    rw[this] at hg2
    cases hg2
    exact⟨_,hg⟩
   ·exact⟨ro2,by rw[<- u1.other gl q];exact hg2⟩
  obtain⟨r3,hgl⟩:=hgl
  obtain⟨C,ty,fr,_,_,_,_,c5⟩:=H.obj gl l2 _ e2' hgl
  obtain⟨v',_,d2⟩:=c5 j _ hj
  cases d2 with
  |slice _ _ _ _ _ l0 q=>exact⟨l0,q⟩
  |sliceOpen _ _ _ _ _ _ _ l0 q=>exact⟨l0,q⟩
 obtain⟨l1,e1'⟩:=hmap
 obtain⟨ι2,H2,S2⟩:=fX H e1' hg
 have e2'':=S2.ext.at_ _ _ e2'
 have H3:=H2.fi hg2 (le _ u1.get)
 have S3:=Step.fi H2 e2'' hg2 (cs':=cs2')
 obtain⟨ι4,H4,S4⟩:=fX H3 e2'' u2.get
 have r4:ERel ι4 e a:=(r.mono S2.ext).mono S4.ext
 have hvv:VLe (((h.upd g (.cells cs true)).upd gl (.cells cs2' ro2)).upd gl (.cells cs2' true)) (.pointer (some ⟨gl,0,none⟩)) (FP v):=by
  refine VLe.fp u3.get (by rw[hv];omega) ?_
  rw[hv,List.drop_zero,List.take_length]
  exact LLe.refl _ _
 have r5:ERel ι4 (e.put (some t2) (FP v)) a:=⟨r4.defers,by rw[Env.eQ];exact r4.size,fun t ht=>by
  rw[Env.eQ] at ht
  have:=r4.get t ht
  show VRel ι4 ((e.set t2 (FP v)).get t) _
  rw[Env.bA]
  by_cases q:t=t2
  ·subst q
   rw[if_pos rfl]
   rw[hv2] at this
   exact hvv N ι4 w _ H4 this
  ·rw[if_neg q];exact this⟩
 refine wp_mono (hc.2 ι4 w a H4 r5) ?_
 rintro x' a' w' ⟨rfl,ι',r',H',S⟩
 exact⟨rfl,ι',r',H',((S2.trans S3).trans S4).trans S⟩
theorem zN {ρ:Operand->Value}{d:Option Tmp}{ty:TypeId}{pos:String}{af:Array Edge}{gd:Option (Nat×Bool)}{t yt:TypeId}{x y:Operand}{a b:Int} (hx:ρ x=.int .i64 a) (hy:ρ y=.int .i64 b) (h1 : -(2 ^ 63)<=a-b) (h2:a-b<2 ^ 63) :
  av P ρ { dst:=d,op:=.binOp .sub t x y yt,type:=ty,pos:=pos,after:=af,guard:=gd }=some (.int .i64 (a-b)):=by
 refine wP hx hy ?_
 simp only[fu,Option.some.injEq,Value.int.injEq,true_and]
 rw[IntWalk.i64_in _ (by omega)]
end
end Go.Abs
