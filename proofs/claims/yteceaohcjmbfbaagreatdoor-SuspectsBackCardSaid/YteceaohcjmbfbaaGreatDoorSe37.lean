/-
  AbsXx: parts of the proof.
-/
import Derived.Test.YteceaohcjmbfbaaGreatDoorSe36
namespace Go.Abs
section
variable {P:Program} {N:Nat} {B:List AObj} {h0 h:Heap} {L:List Slot}
end
section
variable {α:Type} {enc:α->Value} {s:Nat} {l:List α} {j:Nat} {x:α}
end
section
variable {P:Program} {ρ:Operand->Value} {d:Option Tmp} {ty:TypeId} {pos:String} {af:Array Edge} {gd:Option (Nat×Bool)} {h:Heap}
end
section
variable {P:Program} {N:Nat} {ρ:Operand->Value} {d:Option Tmp} {ty:TypeId} {pos:String} {af:Array Edge} {gd:Option (Nat×Bool)} {h:Heap} {α:Type} {s:Nat} {enc:α->Value} {l:List α}
end
structure ValOk {R:Type} (val:R->Option Nat->Value):Prop where
 ren:∀ r (ι ι':Inj) g g' l v',ι g=some l->ι' g'=some l->VRel ι (val r (some g)) v'->VRel ι' (val r (some g')) v'
 none:∀ r (ι ι':Inj) v',VRel ι (val r none) v'->VRel ι' (val r none) v'
 at_:∀ r (ι:Inj) g v',VRel ι (val r (some g)) v'->∃ l,ι g=some l
theorem ValOk.tup {R:Type}{val:R->Option Nat->Value} (o:ValOk val) (ys:R->List Value) (hy:∀ r,(ys r).all eM=true):ValOk fun r a=>.tuple ⟨val r a::ys r⟩ where
 ren r ι ι' g g' l v' e e' q:=by
  cases q with
  |tuple _ b h1 h2 =>
   refine .tuple _ b h1 fun i=>?_
   cases i with
   |zero=>exact o.ren r ι ι' g g' l _ e e' (h2 0)
   |succ i =>
    have q2:=h2 (i+1)
    have e1:∀ v:Value,(⟨v::ys r⟩:Array Value).getD (i+1) undef=(ys r).getD i undef:=fun v=>by rw[<- dA];rfl
    rw[e1] at q2 ⊢
    by_cases c:i<(ys r).length
    ·have hf:eM ((ys r).getD i undef)=true:=by
      rw[List.getD,List.getElem?_eq_getElem c];exact List.all_eq_true.1 (hy r) _ (List.getElem_mem c)
     rw[q2.iP hf];exact VRel.fm hf
    ·have hs:b.size=(ys r).length+1:=h1.symm
     have e2:b.getD (i+1) undef=undef:=by rw[Array.getD_eq_getD_getElem?,Array.getElem?_eq_none (by omega)];rfl
     have e3:(ys r).getD i undef=undef:=by rw[List.getD,List.getElem?_eq_none (by omega)];rfl
     rw[e2,e3];exact VRel.nothing _
 none r ι ι' v' q:=by
  cases q with
  |tuple _ b h1 h2 =>
   refine .tuple _ b h1 fun i=>?_
   cases i with
   |zero=>exact o.none r ι ι' _ (h2 0)
   |succ i =>
    have q2:=h2 (i+1)
    have e1:∀ v:Value,(⟨v::ys r⟩:Array Value).getD (i+1) undef=(ys r).getD i undef:=fun v=>by rw[<- dA];rfl
    rw[e1] at q2 ⊢
    by_cases c:i<(ys r).length
    ·have hf:eM ((ys r).getD i undef)=true:=by
      rw[List.getD,List.getElem?_eq_getElem c];exact List.all_eq_true.1 (hy r) _ (List.getElem_mem c)
     rw[q2.iP hf];exact VRel.fm hf
    ·have hs:b.size=(ys r).length+1:=h1.symm
     have e2:b.getD (i+1) undef=undef:=by rw[Array.getD_eq_getD_getElem?,Array.getElem?_eq_none (by omega)];rfl
     have e3:(ys r).getD i undef=undef:=by rw[List.getD,List.getElem?_eq_none (by omega)];rfl
     rw[e2,e3];exact VRel.nothing _
 at_ r ι g v' q:=by
  cases q with
  |tuple _ b h1 h2=>exact o.at_ r ι g _ (h2 0)
section
variable {P:Program} {N:Nat} {B:List AObj} {h0 h:Heap} {L:List Slot}
end
section
variable {P:Program} {ρ:Operand->Value} {d:Option Tmp} {ty:TypeId} {pos:String} {af:Array Edge} {gd:Option (Nat×Bool)}
end
end Go.Abs
