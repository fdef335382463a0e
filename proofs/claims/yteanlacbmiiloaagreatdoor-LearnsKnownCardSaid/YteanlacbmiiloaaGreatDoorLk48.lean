/-
  AbsXy: parts of the proof.
-/
import Derived.Test.YteanlacbmiiloaaGreatDoorLk47
namespace Go.Abs
variable {P:Program} {ρ:Operand→Value} {d:Option Tmp} {ty:TypeId} {pos:String} {af:Array Edge} {gd:Option (Nat×Bool)}
theorem CodeS.freezeP {N:Nat}{B:List AObj}{h0 h:Heap}{L:List Slot}{c:Code}{e:Env}{K:X→Env→Heap→Prop} (O:Own B h0 L h) {gl:Nat}{cs:List Value}{ro:Bool}{f:Slot→List Slot} (A:At (some gl,.cells cs ro) L f)
  {t2:Nat} {v:Value} (ht2:Nat.blt t2 e.n=true) (hv2:e.get t2=.pointer (some ⟨gl,0,none⟩)) (hv:cl v=cs)
  (k:∀ h,Own B h0 (f (some gl,.cells cs true)) h→putG e (some t2) (FP v) fun e=>CodeS P N c e h K):CodeS P N c e h K:=by
 have hg:=O.at A.mem
 have u:=Upd.upd (.cells cs true) (Heap.lt_of_get hg)
 have O1:=O.upd A u
 refine⟨fun hM hok=>?_⟩
 obtain⟨x,e1,h1,hc,hk⟩:=(putG_iff.1 (k _ O1)).spec hM (by rw[Env.put_n];exact hok)
 refine⟨x,e1,h1,⟨⟨by have:=hc.1.1;rw[u.size] at this;exact this,by rw[hc.1.2,Env.put_n]⟩,fun ι w a H r=>?_⟩,hk⟩
 obtain⟨l2,e2'⟩:=ptr_mapped r (Nat.le_of_ble_eq_true ht2) hv2
 obtain⟨ι2,H2,S2⟩:=freezeStep H e2' hg
 have r4:ERel ι2 e a:=r.mono S2.ext
 have hvv:VLe (h.upd gl (.cells cs true)) (.pointer (some ⟨gl,0,none⟩)) (FP v):=by
  refine VLe.fp u.get (by rw[hv];omega) ?_
  rw[hv,List.drop_zero,List.take_length]
  exact LLe.refl _ _
 have r5:ERel ι2 (e.put (some t2) (FP v)) a:=⟨r4.defers,by rw[Env.put_n];exact r4.size,fun t ht=>by
  rw[Env.put_n] at ht
  have:=r4.get t ht
  show VRel ι2 ((e.set t2 (FP v)).get t) _
  rw[Env.get_set]
  by_cases q:t=t2
  ·subst q
   rw[if_pos rfl]
   rw[hv2] at this
   exact hvv N ι2 w _ H2 this
  ·rw[if_neg q];exact this⟩
 refine wp_mono (hc.2 ι2 w a H2 r5) ?_
 rintro x' a' w' ⟨rfl,ι',r',H',S⟩
 exact⟨rfl,ι',r',H',S2.trans S⟩
variable {N:Nat} {B:List AObj} {h0 h:Heap} {L:List Slot}
end Go.Abs
