/-
  AbsXu: parts of the proof.
-/
import Derived.Test.YtfhldkgelipnaaaGreatDoorLc38
namespace Go.Abs
section
variable {P:Program} {N:Nat} {B:List AObj} {h0 h:Heap} {L:List Slot} {ρ:Operand→Value} {d:Option Tmp} {ty:TypeId} {pos:String} {af:Array Edge} {gd:Option (Nat×Bool)}
structure SrcOk {α:Type} (h:Heap) (s:Nat) (v:Value) (enc:α→Value) (src:List α):Prop where
 len:lenOf v=some src.length
 first:∀ m,m≤src.length→firstOf h s m v=some (flatC ((src.take m).map enc))
theorem SrcOk.fl {α:Type}{h:Heap}{s:Nat}{v:Value}{enc:α→Value}{src:List α} (hy:v=FL s (src.map enc)):SrcOk h s v enc src:=by
 subst hy
 refine⟨?_,fun m hm=>?_⟩
 ·show some (src.map enc).length=_
  rw[List.length_map]
 ·unfold firstOf FL
  cases hq:src with
  |nil=>simp[flatC]
  |cons a r =>
   have:Nat.beq s s=true:=Nat.beq_refl s
   simp only[List.map_cons,this]
   rw[← List.map_cons,← List.map_take]
theorem At.same {s:Slot}{L:List Slot}{f:Slot→List Slot} (A:At s L f):f s=L:=by
 induction A with
 |head L=>rfl
 |tail r _ ih=>exact congrArg (List.cons r) ih
end
end Go.Abs
