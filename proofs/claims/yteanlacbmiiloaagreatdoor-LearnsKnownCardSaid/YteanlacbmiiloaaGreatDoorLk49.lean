/-
  AbsXz: parts of the proof.
-/
import Derived.Test.YteanlacbmiiloaaGreatDoorLk48
namespace Go.Abs
def encC {α:Type} (s:Nat) (enc:α→Value) (l:List α):Value:=FC s (l.map enc)
section
variable {α:Type} {s:Nat} {enc:α→Value} {l:List α}
end
section
variable {P:Program} {ρ:Operand→Value} {d:Option Tmp} {ty:TypeId} {pos:String} {af:Array Edge} {gd:Option (Nat×Bool)}
variable {α:Type} {s:Nat} {enc:α→Value} {l:List α}
end
section
variable {P:Program} {N:Nat} {B:List AObj} {h0 h:Heap} {L:List Slot}
theorem CodeS.ghostLeP {c:Code}{e:Env}{K:X→Env→Heap→Prop} (O:Own B h0 L h) {gl:Nat}{cs cs':List Value}{ro:Bool}{f2:Slot→List Slot} (A2:At (some gl,.cells cs ro) L f2)
  {t2 o2:Nat} (ht2:Nat.blt t2 e.n=true) (hv2:e.get t2=.pointer (some ⟨gl,o2,none⟩))
  (le:LLe h cs cs') (k:∀ h,Own B h0 (f2 (some gl,.cells cs' ro)) h→CodeS P N c e h K):CodeS P N c e h K:=by
 have hg:=O.at A2.mem
 have u:=Upd.upd (.cells cs' ro) (Heap.lt_of_get hg)
 have O1:=O.upd A2 u
 refine⟨fun hM hok=>?_⟩
 obtain⟨x,e1,h1,hc,hk⟩:=(k _ O1).spec hM hok
 refine⟨x,e1,h1,⟨⟨by have:=hc.1.1;rw[u.size] at this;exact this,hc.1.2⟩,fun ι w a H r=>?_⟩,hk⟩
 obtain⟨l2,e2'⟩:=ptr_mapped r (Nat.le_of_ble_eq_true ht2) hv2
 have H3:=H.cellsLe hg le
 have S3:=Step.cellsLe H e2' hg (cs':=cs')
 refine wp_mono (hc.2 ι w a H3 r) ?_
 rintro x' a' w' ⟨rfl,ι',r',H',S⟩
 exact⟨rfl,ι',r',H',S3.trans S⟩
end
end Go.Abs
