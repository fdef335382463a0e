/-
  AbsXv: parts of the proof.
-/
import Derived.Test.YtgiedjgdlckahaaGreatDoorTk32
namespace Go.Abs
structure RegFS (P:Program) (N:Nat) (ops:Array Oper) (h0:Heap) (l:List Oper) (k:Nat) (e:Env) (h:Heap) (K:Env->Heap->Prop):Prop where
 spec:∃ e1 h1,RegF P N ops h0 true l k e h e1 h1/\K e1 h1
def DY (o:Oper) (e:Env) (K:Value->Heap->Prop) (v:Value) (h1:Heap):Prop :=
 match cls o.op with
 |.read=>cA e.eval o=true/\K v h1
 |_=>K v h1
def zV (P:Program) (N:Nat) (ops:Array Oper) (h0:Heap) (l:List Oper) (k:Nat) (e:Env) (h:Heap) (K:Env->Heap->Prop):Prop :=
 match l with
 |[]=>K e h
 |o::r=>match Region.wanted o (ayielded ops e) with
  |true=>match isLen o.op with
   |true=>∃ v,aq P e.eval o=some v/\nV (dI ops k) e o.dst v fun e=>RegFS P N ops h0 r (k+1) e h K
   |false=>opG P N o e h (DY o e fun v h=>nV (dI ops k) e o.dst v fun e=>RegFS P N ops h0 r (k+1) e h K)
  |false=>nX e o.dst undef fun e=>RegFS P N ops h0 r (k+1) e h K
theorem Hf {P:Program}{N:Nat}{ops:Array Oper}{h0:Heap}{l:List Oper}{k:Nat}{e:Env}{h:Heap}{K:Env->Heap->Prop} (hk:zV P N ops h0 l k e h K):RegFS P N ops h0 l k e h K:=by
 unfold zV at hk;split at hk
 ·exact⟨e,h,⟨rfl,rfl⟩,hk⟩
 ·rename_i o r;split at hk
  ·rename_i hw;split at hk
   ·rename_i hl;obtain⟨v,hv,hk⟩:=hk;obtain⟨e2,h2,hr,hk⟩:=(fS hk).spec;refine⟨e2,h2,?_,hk⟩;unfold RegF;rw[if_pos hw];refine⟨v,h,⟨OpD.pure (dj hl) hv,?_,?_⟩,hr⟩
    ·intro q;unfold isChain at q;rw[dj hl] at q;cases q
    ·intro q;unfold cG at q;rw[dj hl] at q;cases q
   ·obtain⟨v,h1,hd,hk⟩:=qj hk
    have key:((cG o=true->cA e.eval o=true))/\(nV (dI ops k) e o.dst v fun e=>RegFS P N ops h0 r (k+1) e h1 K):=by
     unfold DY at hk;unfold cG
     cases hc:cls o.op <;> simp only[hc] at hk ⊢
     case read=>exact⟨fun _=>hk.1,hk.2⟩
     all_goals exact⟨by simp,hk⟩
    obtain⟨c2,hk⟩:=key;obtain⟨e2,h2,hr,hk⟩:=(fS hk).spec;refine⟨e2,h2,?_,hk⟩;unfold RegF;rw[if_pos hw];exact⟨v,h1,⟨hd,fun _=>.inl rfl,fun q=>⟨fun _=>c2 q,.inl rfl⟩⟩,hr⟩
  ·rename_i hw;obtain⟨e2,h2,hr,hk⟩:=(fC.1 hk).spec;refine⟨e2,h2,?_,hk⟩;unfold RegF;rw[if_neg (by rw[hw];simp)];exact hr
structure RegKS (P:Program) (N:Nat) (ops:Array Oper) (h0:Heap) (l:List Oper) (k:Nat) (e:Env) (h:Heap) (K:Env->Heap->Prop):Prop where
 spec:∃ e1 h1,RegF P N ops h0 false l k e h e1 h1/\K e1 h1
def Ei (P:Program) (ops:Array Oper) (h0:Heap) (k:Nat) (o:Oper) (e:Env) (h:Heap) (K:Value->Heap->Prop) (v:Value) (h1:Heap):Prop :=
 match cls o.op with
 |.read=>(plain v=true\/gN ops k=true\/aT P e.eval o h0=some v)/\K v h1
 |.eff=>(dD ops k=true\/Ext h h1\/mW ops k e h h1)/\K v h1
 |.call=>(dD ops k=true\/Ext h h1\/mW ops k e h h1)/\K v h1
 |_=>K v h1
def Ak (P:Program) (N:Nat) (ops:Array Oper) (h0:Heap) (l:List Oper) (k:Nat) (e:Env) (h:Heap) (K:Env->Heap->Prop):Prop :=
 match l with
 |[]=>K e h
 |o::r=>match Region.wanted o (ayielded ops e) with
  |true=>match isLen o.op with
   |true=>∃ v,aq P e.eval o=some v/\nV (dI ops k) e o.dst v fun e=>RegKS P N ops h0 r (k+1) e h K
   |false=>opG P N o e h (Ei P ops h0 k o e h fun v h=>nV (dI ops k) e o.dst v fun e=>RegKS P N ops h0 r (k+1) e h K)
  |false=>nX e o.dst undef fun e=>RegKS P N ops h0 r (k+1) e h K
theorem Hk {P:Program}{N:Nat}{ops:Array Oper}{h0:Heap}{l:List Oper}{k:Nat}{e:Env}{h:Heap}{K:Env->Heap->Prop} (hk:Ak P N ops h0 l k e h K):RegKS P N ops h0 l k e h K:=by
 unfold Ak at hk;split at hk
 ·exact⟨e,h,⟨rfl,rfl⟩,hk⟩
 ·rename_i o r;split at hk
  ·rename_i hw;split at hk
   ·rename_i hl;obtain⟨v,hv,hk⟩:=hk;obtain⟨e2,h2,hr,hk⟩:=(fS hk).spec;refine⟨e2,h2,?_,hk⟩;unfold RegF;rw[if_pos hw];refine⟨v,h,⟨OpD.pure (dj hl) hv,?_,?_⟩,hr⟩
    ·intro q;unfold isChain at q;rw[dj hl] at q;cases q
    ·intro q;unfold cG at q;rw[dj hl] at q;cases q
   ·obtain⟨v,h1,hd,hk⟩:=qj hk
    have key:((isChain o=true->dD ops k=true\/Ext h h1\/mW ops k e h h1)/\(cG o=true->gN ops k=true\/plain v=true\/aT P e.eval o h0=some v))/\(nV (dI ops k) e o.dst v fun e=>RegKS P N ops h0 r (k+1) e h1 K):=by
     unfold Ei at hk;unfold isChain cG
     cases hc:cls o.op <;> simp only[hc] at hk ⊢
     ·exact⟨⟨by simp,by simp⟩,hk⟩
     ·refine⟨⟨by simp,fun _=>?_⟩,hk.2⟩
      rcases hk.1 with q|q|q
      ·exact .inr (.inl q)
      ·exact .inl q
      ·exact .inr (.inr q)
     ·exact⟨⟨by simp,by simp⟩,hk⟩
     ·exact⟨⟨fun _=>hk.1,by simp⟩,hk.2⟩
     ·exact⟨⟨fun _=>hk.1,by simp⟩,hk.2⟩
    obtain⟨⟨c1,c2⟩,hk⟩:=key;obtain⟨e2,h2,hr,hk⟩:=(fS hk).spec;refine⟨e2,h2,?_,hk⟩;unfold RegF;rw[if_pos hw];exact⟨v,h1,⟨hd,fun q=>.inr (c1 q),fun q=>⟨(fun e=>by cases e),.inr (c2 q)⟩⟩,hr⟩
  ·rename_i hw;obtain⟨e2,h2,hr,hk⟩:=(fC.1 hk).spec;refine⟨e2,h2,?_,hk⟩;unfold RegF;rw[if_neg (by rw[hw];simp)];exact hr
theorem wE {ops:Array Oper}{i k:Nat}{e:Env}{h h1:Heap}{t:TypeId}{a g off:Nat}{o:AObj} (hb:sV ops k [i]=true) (hop:(ops[i]?).map (·.op)=some (.load t (.tmp a))) (he:e.get a=.pointer (some ⟨g,off,none⟩)) (hg:h.get g=some o) (hg1:h1.get g=some o):mW ops k e h h1:=by
 refine⟨[i],hb,fun i' m x t' a' hx hxo g' off' hv=>?_⟩;rw[List.mem_singleton] at m;subst m;rw[hx] at hop;simp only[Option.map_some,Option.some.injEq] at hop;rw[hxo] at hop
 cases hop
 rw[he] at hv
 cases hv
 rw[hg,hg1]
section
variable {P:Program} {N:Nat} {B:List AObj} {h0 h:Heap} {L:List Slot}
theorem CodeS.rH {id:Nat}{l:List Oper}{e:Env}{K:X->Env->Heap->Prop} (hk:RegFS P N ⟨l⟩ h l 0 e h (K .normal)):CodeS P N (.region id ⟨l⟩ true) e h K:=by
 refine⟨fun hM hok=>?_⟩;simp only[codeOk,Bool.and_eq_true] at hok;obtain⟨e1,h1,hr,hk⟩:=hk.spec;exact⟨.normal,e1,h1,CodeD.rH hM (by simpa using hok.2) hok.1 hr,hk⟩
theorem CodeS.kX {id:Nat}{l:List Oper}{e:Env}{K:X->Env->Heap->Prop} (hk:RegKS P N ⟨l⟩ h l 0 e h (K .normal)):CodeS P N (.region id ⟨l⟩ true) e h K:=by
 refine⟨fun hM hok=>?_⟩;simp only[codeOk,Bool.and_eq_true] at hok;obtain⟨e1,h1,hr,hk⟩:=hk.spec;exact⟨.normal,e1,h1,CodeD.rH hM (by simpa using hok.2) hok.1 hr,hk⟩
theorem Fw {ρ:Operand->Value}{d:Option Tmp}{ty:TypeId}{pos:String}{af:Array Edge}{gd:Option (Nat×Bool)}{t yt:TypeId}{x y:Operand}{a b:Int} (hx:ρ x=.int .i64 a) (hy:ρ y=.int .i64 b) (h1 : -(2 ^ 63)<=a-b) (h2:a-b<2 ^ 63) :
  aq P ρ { dst:=d,op:=.binOp .sub t x y yt,type:=ty,pos:=pos,after:=af,guard:=gd }=some (.int .i64 (a-b)):=by
 refine vr hx hy ?_;simp only[dK,Option.some.injEq,Value.int.injEq,true_and];rw[IntWalk.i64_in _ (by omega)]
theorem Jr {v:Int} (h:(!ltI v (Int.ofNat 0))=true):∃ j:Nat,v=Int.ofNat j:=by
 rw[cX] at h;simp only[Bool.not_eq_true',decide_eq_false_iff_not,Int.not_lt] at h;exact⟨v.toNat,by simp only[Int.ofNat_eq_natCast] at *;omega⟩
end
end Go.Abs
