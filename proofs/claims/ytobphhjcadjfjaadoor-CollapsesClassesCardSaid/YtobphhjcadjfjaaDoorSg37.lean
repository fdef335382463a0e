/-
  AbsXx: parts of the proof.
-/
import Derived.Test.YtobphhjcadjfjaaDoorSg36
namespace Go.Abs
section
variable {P:Program} {N:Nat} {B:List AObj} {h0 h:Heap} {L:List Slot}
end
section
variable {α:Type} {enc:α->Value} {s:Nat} {l:List α} {j:Nat} {x:α}
end
section
variable {P:Program} {ρ:Operand->Value} {d:Option Tmp} {ty:TypeId} {pos:String} {af:Array Edge} {gd:Option (Nat×Bool)} {h:Heap}
end
theorem YOk.gr {α:Type}{B:List AObj}{h0 h:Heap}{L:List Slot}{s:Nat}{ro:Bool}{a:Option Nat}{v:Value}{enc:α->Value}{l:List α} (O:Own B h0 L h) (m:(a,.cells (flatC (l.map enc)) ro)∈L) (ha:a=none->l=[]) (hs:∀ x:α,(cl (enc x)).length=s) (hv:v=ae s a (l.map enc)):YOk h s v enc l:=by
 cases a with
 |none =>
  have:=ha rfl
  subst this hv
  exact⟨rfl,rfl⟩
 |some g =>
  subst hv
  exact YOk.own (O.at m) rfl hs (List.length_map ..)
section
variable {P:Program} {N:Nat} {ρ:Operand->Value} {d:Option Tmp} {ty:TypeId} {pos:String} {af:Array Edge} {gd:Option (Nat×Bool)} {h:Heap} {α:Type} {s:Nat} {enc:α->Value} {l:List α}
end
structure ValOk {R:Type} (val:R->Option Nat->Value):Prop where
 ren:∀ r (ι ι':Inj) g g' l v',ι g=some l->ι' g'=some l->VRel ι (val r (some g)) v'->VRel ι' (val r (some g')) v'
 none:∀ r (ι ι':Inj) v',VRel ι (val r none) v'->VRel ι' (val r none) v'
 at_:∀ r (ι:Inj) g v',VRel ι (val r (some g)) v'->∃ l,ι g=some l
section
variable {P:Program} {N:Nat} {B:List AObj} {h0 h:Heap} {L:List Slot}
end
section
variable {P:Program} {ρ:Operand->Value} {d:Option Tmp} {ty:TypeId} {pos:String} {af:Array Edge} {gd:Option (Nat×Bool)}
end
end Go.Abs
