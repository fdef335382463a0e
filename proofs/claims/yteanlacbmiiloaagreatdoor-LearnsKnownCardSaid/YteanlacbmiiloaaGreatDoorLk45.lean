/-
  AbsXx: parts of the proof.
-/
import Derived.Test.YteanlacbmiiloaaGreatDoorLk44
namespace Go.Abs
section
variable {P:Program} {N:Nat} {B:List AObj} {h0 h:Heap} {L:List Slot}
theorem Own.useX {f:FuncId}{l l':List Value}{K:Value→Heap→Prop} (O:Own B h0 L h) {g:Nat}{cs:List Value}{ro:Bool}{fL:Slot→List Slot} (A:At (some g,.cells cs ro) L fL) {i off n cap:Nat}{sp:Option Nat}
  (hi:l'[i]?=some (.slice (some ⟨g,off,sp⟩) n cap)) (fok:fnOk P f=true) (a:∀ h2,h2.get g=some (.cells cs true)→LLe h2 l' l) (F:∀ h2,Own B h0 (fL (some g,.cells cs true)) h2→∃ v h',CallD P N f ⟨l⟩ h2 v h'∧K v h') :
  ∃ v h',CallD P N f ⟨l'⟩ h v h'∧K v h':=by
 have hg:=O.at A.mem
 have u:=Upd.upd (.cells cs true) (Heap.lt_of_get hg)
 have O1:=O.upd A u
 obtain⟨v,h',c,hk⟩:=F _ O1
 refine⟨v,h',⟨by have:=c.1;rw[u.size] at this;exact this,fun ι w vs' H ra=>?_⟩,hk⟩
 have hmap:∃ l0,ι g=some l0:=by
  have:=ra.2 i
  rw[← getD_list] at this
  simp only[List.getD,hi,Option.getD_some] at this
  generalize vs'.getD i undef=y at this
  cases this with
  |slice _ _ _ _ _ l0 q=>exact⟨l0,q⟩
  |sliceOpen _ _ _ _ _ _ _ l0 q=>exact⟨l0,q⟩
 obtain⟨l0,hl0⟩:=hmap
 obtain⟨ι2,H2,S2⟩:=freezeStep H hl0 hg
 have ra2:ARel ι2 ⟨l⟩ vs':=(a _ u.get).arel H2 (ra.mono S2.ext)
 rcases c.2 ι2 w vs' H2 ra2 with⟨ok,hc⟩|⟨v',e1,e2,_⟩
 ·refine .inl ⟨ok,hc.mono fun e' w' q=>?_⟩
  obtain⟨ι',v',rfl,r',H',S⟩:=q
  exact⟨ι',v',rfl,r',H',S2.trans S⟩
 ·exfalso
  have:=run_callFunc (w:=w) fok vs'
  rw[this] at e1
  cases e1
theorem Own.useXL {α:Type}{enc':α→Value}{la:List α}{s g n cap:Nat}{sp:Option Nat}{f:FuncId}{l l':List Value}{K:Value→Heap→Prop} (O:Own B h0 L h) {ro:Bool}{fL:Slot→List Slot} (A:At (some g,.cells (flatC (la.map enc')) ro) L fL) (hn:n=la.length) (hs:∀ x:α,(cl (enc' x)).length=s) {i:Nat}
  (hi:l'[i]?=some (.slice (some ⟨g,0,sp⟩) n cap)) (fok:fnOk P f=true) (le:∀ h2,VLe h2 (.slice (some ⟨g,0,sp⟩) n cap) (encL s enc' la)→LLe h2 l' l) (F:∀ h2,Own B h0 (fL (some g,.cells (flatC (la.map enc')) true)) h2→∃ v h',CallD P N f ⟨l⟩ h2 v h'∧K v h') :
  ∃ v h',CallD P N f ⟨l'⟩ h v h'∧K v h':=by
 refine O.useX A hi fok (fun h2 hg=>le h2 ?_) F
 refine VLe.fl hg (by rw[List.length_map];exact hn) (map_size hs la) (by rw[flat_len hs,hn];omega) ?_
 rw[List.drop_zero,hn,← List.length_map (f:=enc'),← flatC_length (map_size hs la),List.take_length]
 exact LLe.refl _ _
end
section
variable {α:Type} {enc:α→Value} {s:Nat} {l:List α} {j:Nat} {x:α}
end
section
variable {P:Program} {ρ:Operand→Value} {d:Option Tmp} {ty:TypeId} {pos:String} {af:Array Edge} {gd:Option (Nat×Bool)} {h:Heap}
end
section
variable {P:Program} {N:Nat} {ρ:Operand→Value} {d:Option Tmp} {ty:TypeId} {pos:String} {af:Array Edge} {gd:Option (Nat×Bool)} {h:Heap} {α:Type} {s:Nat} {enc:α→Value} {l:List α}
end
structure ValOk {R:Type} (val:R→Option Nat→Value):Prop where
 ren:∀ r (ι ι':Inj) g g' l v',ι g=some l→ι' g'=some l→VRel ι (val r (some g)) v'→VRel ι' (val r (some g')) v'
 none:∀ r (ι ι':Inj) v',VRel ι (val r none) v'→VRel ι' (val r none) v'
 at_:∀ r (ι:Inj) g v',VRel ι (val r (some g)) v'→∃ l,ι g=some l
theorem ValOk.tup {R:Type}{val:R→Option Nat→Value} (o:ValOk val) (ys:R→List Value) (hy:∀ r,(ys r).all flatV=true):ValOk fun r a=>.tuple ⟨val r a::ys r⟩ where
 ren r ι ι' g g' l v' e e' q:=by
  cases q with
  |tuple _ b h1 h2 =>
   refine .tuple _ b h1 fun i=>?_
   cases i with
   |zero=>exact o.ren r ι ι' g g' l _ e e' (h2 0)
   |succ i =>
    have q2:=h2 (i+1)
    have e1:∀ v:Value,(⟨v::ys r⟩:Array Value).getD (i+1) undef=(ys r).getD i undef:=fun v=>by rw[← getD_list];rfl
    rw[e1] at q2 ⊢
    by_cases c:i<(ys r).length
    ·have hf:flatV ((ys r).getD i undef)=true:=by
      rw[List.getD,List.getElem?_eq_getElem c];exact List.all_eq_true.1 (hy r) _ (List.getElem_mem c)
     rw[q2.flat_eq hf];exact VRel.flat_refl hf
    ·have hs:b.size=(ys r).length+1:=h1.symm
     have e2:b.getD (i+1) undef=undef:=by rw[Array.getD_eq_getD_getElem?,Array.getElem?_eq_none (by omega)];rfl
     have e3:(ys r).getD i undef=undef:=by rw[List.getD,List.getElem?_eq_none (by omega)];rfl
     rw[e2,e3];exact VRel.nothing _
 none r ι ι' v' q:=by
  cases q with
  |tuple _ b h1 h2 =>
   refine .tuple _ b h1 fun i=>?_
   cases i with
   |zero=>exact o.none r ι ι' _ (h2 0)
   |succ i =>
    have q2:=h2 (i+1)
    have e1:∀ v:Value,(⟨v::ys r⟩:Array Value).getD (i+1) undef=(ys r).getD i undef:=fun v=>by rw[← getD_list];rfl
    rw[e1] at q2 ⊢
    by_cases c:i<(ys r).length
    ·have hf:flatV ((ys r).getD i undef)=true:=by
      rw[List.getD,List.getElem?_eq_getElem c];exact List.all_eq_true.1 (hy r) _ (List.getElem_mem c)
     rw[q2.flat_eq hf];exact VRel.flat_refl hf
    ·have hs:b.size=(ys r).length+1:=h1.symm
     have e2:b.getD (i+1) undef=undef:=by rw[Array.getD_eq_getD_getElem?,Array.getElem?_eq_none (by omega)];rfl
     have e3:(ys r).getD i undef=undef:=by rw[List.getD,List.getElem?_eq_none (by omega)];rfl
     rw[e2,e3];exact VRel.nothing _
 at_ r ι g v' q:=by
  cases q with
  |tuple _ b h1 h2=>exact o.at_ r ι g _ (h2 0)
section
variable {P:Program} {N:Nat} {B:List AObj} {h0 h:Heap} {L:List Slot}
end
section
variable {P:Program} {ρ:Operand→Value} {d:Option Tmp} {ty:TypeId} {pos:String} {af:Array Edge} {gd:Option (Nat×Bool)}
end
end Go.Abs
