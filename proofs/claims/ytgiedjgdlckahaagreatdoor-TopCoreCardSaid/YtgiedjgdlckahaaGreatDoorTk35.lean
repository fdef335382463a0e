/-
  AbsXx: parts of the proof.
-/
import Derived.Test.YtgiedjgdlckahaaGreatDoorTk34
namespace Go.Abs
section
variable {P:Program} {N:Nat} {B:List AObj} {h0 h:Heap} {L:List Slot}
theorem Own.Ke {f:FuncId}{l l':List Value}{K:Value->Heap->Prop} (O:Own B h0 L h) {g:Nat}{cs:List Value}{ro:Bool}{fL:Slot->List Slot} (A:At (some g,.cells cs ro) L fL) {i off n cap:Nat}{sp:Option Nat}
  (hi:l'[i]?=some (.slice (some ⟨g,off,sp⟩) n cap)) (fok:fnOk P f=true) (a:∀ h2,h2.get g=some (.cells cs true)->LLe h2 l' l) (F:∀ h2,Own B h0 (fL (some g,.cells cs true)) h2->∃ v h',CallD P N f ⟨l⟩ h2 v h'/\K v h') :
  ∃ v h',CallD P N f ⟨l'⟩ h v h'/\K v h':=by
 have hg:=O.at A.mem;have u:=Upd.upd (.cells cs true) (Heap.ag hg);have O1:=O.upd A u;obtain⟨v,h',c,hk⟩:=F _ O1;refine⟨v,h',⟨by have:=c.1;rw[u.size] at this;exact this,fun ι w vs' H ra=>?_⟩,hk⟩
 have hmap:∃ l0,ι g=some l0:=by
  have:=ra.2 i;rw[<- dW] at this;simp only[List.getD,hi,Option.getD_some] at this;generalize vs'.getD i undef=y at this
  cases this with
  |slice _ _ _ _ _ l0 q=>exact⟨l0,q⟩
  |sliceOpen _ _ _ _ _ _ _ l0 q=>exact⟨l0,q⟩
 obtain⟨l0,hl0⟩:=hmap;obtain⟨ι2,H2,S2⟩:=jW H hl0 hg;have ra2:bm ι2 ⟨l⟩ vs':=(a _ u.get).DI H2 (ra.mono S2.ext)
 rcases c.2 ι2 w vs' H2 ra2 with⟨ok,hc⟩|⟨v',e1,e2,_⟩
 ·refine .inl ⟨ok,hc.mono fun e' w' q=>?_⟩;obtain⟨ι',v',rfl,r',H',S⟩:=q;exact⟨ι',v',rfl,r',H',S2.trans S⟩
 ·exfalso;have:=gq (w:=w) fok vs';rw[this] at e1
  cases e1
theorem Own.Jo {α:Type}{enc':α->Value}{la:List α}{s g n cap:Nat}{sp:Option Nat}{f:FuncId}{l l':List Value}{K:Value->Heap->Prop} (O:Own B h0 L h) {ro:Bool}{fL:Slot->List Slot} (A:At (some g,.cells (flatC (la.map enc')) ro) L fL) (hn:n=la.length) (hs:∀ x:α,(cl (enc' x)).length=s) {i:Nat}
  (hi:l'[i]?=some (.slice (some ⟨g,0,sp⟩) n cap)) (fok:fnOk P f=true) (le:∀ h2,VLe h2 (.slice (some ⟨g,0,sp⟩) n cap) (ah s enc' la)->LLe h2 l' l) (F:∀ h2,Own B h0 (fL (some g,.cells (flatC (la.map enc')) true)) h2->∃ v h',CallD P N f ⟨l⟩ h2 v h'/\K v h') :
  ∃ v h',CallD P N f ⟨l'⟩ h v h'/\K v h':=by
 refine O.Ke A hi fok (fun h2 hg=>le h2 ?_) F;refine VLe.fl hg (by rw[List.length_map];exact hn) (aZ hs la) (by rw[aX hs,hn];omega) ?_;rw[List.drop_zero,hn,<- List.length_map (f:=enc'),<- ba (aZ hs la),List.take_length];exact LLe.refl _ _
end
section
variable {α:Type} {enc:α->Value} {s:Nat} {l:List α} {j:Nat} {x:α}
end
section
variable {P:Program} {ρ:Operand->Value} {d:Option Tmp} {ty:TypeId} {pos:String} {af:Array Edge} {gd:Option (Nat×Bool)} {h:Heap}
end
theorem YOk.gr {α:Type}{B:List AObj}{h0 h:Heap}{L:List Slot}{s:Nat}{ro:Bool}{a:Option Nat}{v:Value}{enc:α->Value}{l:List α} (O:Own B h0 L h) (m:(a,.cells (flatC (l.map enc)) ro)∈L) (ha:a=none->l=[]) (hs:∀ x:α,(cl (enc x)).length=s) (hv:v=ae s a (l.map enc)):YOk h s v enc l:=by
 cases a with
 |none =>
  have:=ha rfl;subst this hv;exact⟨rfl,rfl⟩
 |some g =>
  subst hv;exact YOk.own (O.at m) rfl hs (List.length_map ..)
section
variable {P:Program} {N:Nat} {ρ:Operand->Value} {d:Option Tmp} {ty:TypeId} {pos:String} {af:Array Edge} {gd:Option (Nat×Bool)} {h:Heap} {α:Type} {s:Nat} {enc:α->Value} {l:List α}
end
structure ValOk {R:Type} (val:R->Option Nat->Value):Prop where
 ren:∀ r (ι ι':Inj) g g' l v',ι g=some l->ι' g'=some l->VRel ι (val r (some g)) v'->VRel ι' (val r (some g')) v'
 none:∀ r (ι ι':Inj) v',VRel ι (val r none) v'->VRel ι' (val r none) v'
 at_:∀ r (ι:Inj) g v',VRel ι (val r (some g)) v'->∃ l,ι g=some l
section
variable {P:Program} {N:Nat} {B:List AObj} {h0 h:Heap} {L:List Slot}
end
section
variable {P:Program} {ρ:Operand->Value} {d:Option Tmp} {ty:TypeId} {pos:String} {af:Array Edge} {gd:Option (Nat×Bool)}
end
end Go.Abs
