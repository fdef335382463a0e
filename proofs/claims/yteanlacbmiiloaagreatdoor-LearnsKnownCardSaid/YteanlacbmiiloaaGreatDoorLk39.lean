/-
  AbsXu: parts of the proof.
-/
import Derived.Test.YteanlacbmiiloaaGreatDoorLk38
namespace Go.Abs
section
variable {P:Program} {N:Nat} {B:List AObj} {h0 h:Heap} {L:List Slot} {ρ:Operand→Value} {d:Option Tmp} {ty:TypeId} {pos:String} {af:Array Edge} {gd:Option (Nat×Bool)}
structure SrcOk {α:Type} (h:Heap) (s:Nat) (v:Value) (enc:α→Value) (src:List α):Prop where
 len:lenOf v=some src.length
 first:∀ m,m≤src.length→firstOf h s m v=some (flatC ((src.take m).map enc))
theorem SrcOk.fl {α:Type}{h:Heap}{s:Nat}{v:Value}{enc:α→Value}{src:List α} (hy:v=FL s (src.map enc)):SrcOk h s v enc src:=by
 subst hy
 refine⟨?_,fun m hm=>?_⟩
 ·show some (src.map enc).length=_
  rw[List.length_map]
 ·unfold firstOf FL
  cases hq:src with
  |nil=>simp[flatC]
  |cons a r =>
   have:Nat.beq s s=true:=Nat.beq_refl s
   simp only[List.map_cons,this]
   rw[← List.map_cons,← List.map_take]
theorem At.same {s:Slot}{L:List Slot}{f:Slot→List Slot} (A:At s L f):f s=L:=by
 induction A with
 |head L=>rfl
 |tail r _ ih=>exact congrArg (List.cons r) ih
theorem ptr_mapped {ι:Inj}{e:Env}{a:Act} (r:ERel ι e a) {t:Nat} (ht:t<e.n) {g o:Nat} (hv:e.get t=.pointer (some ⟨g,o,none⟩)):∃ l,ι g=some l:=by
 have:=r.get t ht
 rw[hv] at this
 generalize a.tmps.getD t undef=y at this
 cases this with
 |ptr _ _ l0 q=>exact⟨l0,q⟩
theorem CodeS.freezeIn {c:Code}{e:Env}{K:X→Env→Heap→Prop} (O:Own B h0 L h) {g gl:Nat}{cs cs2:List Value}{ro ro2:Bool}{f1:Slot→List Slot} (A1:At (some g,.cells cs ro) L f1) (m2:(some gl,.cells cs2 ro2)∈L)
  {t2 o1 n1 c1 o2 j:Nat} {sp1:Option Nat} (hj:cs2[j]?=some (.slice (some ⟨g,o1,sp1⟩) n1 c1)) (ht2:Nat.blt t2 e.n=true) (hv2:e.get t2=.pointer (some ⟨gl,o2,none⟩))
  (k:∀ h,Own B h0 (f1 (some g,.cells cs true)) h→CodeS P N c e h K):CodeS P N c e h K:=by
 have hg:=O.at A1.mem
 have hg2:=O.at m2
 have u1:=Upd.upd (.cells cs true) (Heap.lt_of_get hg)
 have O1:=O.upd A1 u1
 refine⟨fun hM hok=>?_⟩
 obtain⟨x,e1,h1,hc,hk⟩:=(k _ O1).spec hM hok
 refine⟨x,e1,h1,⟨⟨by have:=hc.1.1;rw[u1.size] at this;exact this,hc.1.2⟩,fun ι w a H r=>?_⟩,hk⟩
 obtain⟨l2,e2'⟩:=ptr_mapped r (Nat.le_of_ble_eq_true ht2) hv2
 obtain⟨C,ty,fr,_,_,_,_,c5⟩:=H.obj gl l2 _ e2' hg2
 obtain⟨v',_,d2⟩:=c5 j _ hj
 have hmap:∃ l,ι g=some l:=by
  cases d2 with
  |slice _ _ _ _ _ l0 q=>exact⟨l0,q⟩
  |sliceOpen _ _ _ _ _ _ _ l0 q=>exact⟨l0,q⟩
 obtain⟨l1,e1'⟩:=hmap
 obtain⟨ι2,H2,S2⟩:=freezeStep H e1' hg
 refine wp_mono (hc.2 ι2 w a H2 (r.mono S2.ext)) ?_
 rintro x' a' w' ⟨rfl,ι',r',H',S⟩
 exact⟨rfl,ι',r',H',S2.trans S⟩
end
end Go.Abs
