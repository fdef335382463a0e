/-
  AbsXv: parts of the proof.
-/
import Derived.Test.YteanlacbmiiloaaGreatDoorLk39
namespace Go.Abs
structure RegFS (P:Program) (N:Nat) (ops:Array Oper) (h0:Heap) (l:List Oper) (k:Nat) (e:Env) (h:Heap) (K:Env→Heap→Prop):Prop where
 spec:∃ e1 h1,RegF P N ops h0 true l k e h e1 h1∧K e1 h1
def drawKF (o:Oper) (e:Env) (K:Value→Heap→Prop) (v:Value) (h1:Heap):Prop :=
 match cls o.op with
 |.read=>frozenRead e.eval o=true∧K v h1
 |_=>K v h1
def regFStep (P:Program) (N:Nat) (ops:Array Oper) (h0:Heap) (l:List Oper) (k:Nat) (e:Env) (h:Heap) (K:Env→Heap→Prop):Prop :=
 match l with
 |[]=>K e h
 |o::r=>match Region.wanted o (ayielded ops e) with
  |true=>match isLen o.op with
   |true=>∃ v,apure P e.eval o=some v∧putS (isGuard ops k) e o.dst v fun e=>RegFS P N ops h0 r (k+1) e h K
   |false=>opG P N o e h (drawKF o e fun v h=>putS (isGuard ops k) e o.dst v fun e=>RegFS P N ops h0 r (k+1) e h K)
  |false=>putG e o.dst undef fun e=>RegFS P N ops h0 r (k+1) e h K
theorem Hf {P:Program}{N:Nat}{ops:Array Oper}{h0:Heap}{l:List Oper}{k:Nat}{e:Env}{h:Heap}{K:Env→Heap→Prop} (hk:regFStep P N ops h0 l k e h K):RegFS P N ops h0 l k e h K:=by
 unfold regFStep at hk
 split at hk
 ·exact⟨e,h,⟨rfl,rfl⟩,hk⟩
 ·rename_i o r
  split at hk
  ·rename_i hw
   split at hk
   ·rename_i hl
    obtain⟨v,hv,hk⟩:=hk
    obtain⟨e2,h2,hr,hk⟩:=(putS_spec hk).spec
    refine⟨e2,h2,?_,hk⟩
    unfold RegF
    rw[if_pos hw]
    refine⟨v,h,⟨OpD.pure (isLen_pure hl) hv,?_,?_⟩,hr⟩
    ·intro q;unfold isChain at q;rw[isLen_pure hl] at q;cases q
    ·intro q;unfold isRead at q;rw[isLen_pure hl] at q;cases q
   ·obtain⟨v,h1,hd,hk⟩:=opG_spec hk
    have key:((isRead o=true→frozenRead e.eval o=true))∧(putS (isGuard ops k) e o.dst v fun e=>RegFS P N ops h0 r (k+1) e h1 K):=by
     unfold drawKF at hk
     unfold isRead
     cases hc:cls o.op <;> simp only[hc] at hk ⊢
     case read=>exact⟨fun _=>hk.1,hk.2⟩
     all_goals exact⟨by simp,hk⟩
    obtain⟨c2,hk⟩:=key
    obtain⟨e2,h2,hr,hk⟩:=(putS_spec hk).spec
    refine⟨e2,h2,?_,hk⟩
    unfold RegF
    rw[if_pos hw]
    exact⟨v,h1,⟨hd,fun _=>.inl rfl,fun q=>⟨fun _=>c2 q,.inl rfl⟩⟩,hr⟩
  ·rename_i hw
   obtain⟨e2,h2,hr,hk⟩:=(putG_iff.1 hk).spec
   refine⟨e2,h2,?_,hk⟩
   unfold RegF
   rw[if_neg (by rw[hw];simp)]
   exact hr
section
variable {P:Program} {N:Nat} {B:List AObj} {h0 h:Heap} {L:List Slot}
theorem CodeS.drawF {id:Nat}{l:List Oper}{e:Env}{K:X→Env→Heap→Prop} (hk:RegFS P N ⟨l⟩ h l 0 e h (K .normal)):CodeS P N (.region id ⟨l⟩ true) e h K:=by
 refine⟨fun hM hok=>?_⟩
 simp only[codeOk,Bool.and_eq_true] at hok
 obtain⟨e1,h1,hr,hk⟩:=hk.spec
 exact⟨.normal,e1,h1,CodeD.drawF hM (by simpa using hok.2) hok.1 hr,hk⟩
end
end Go.Abs
