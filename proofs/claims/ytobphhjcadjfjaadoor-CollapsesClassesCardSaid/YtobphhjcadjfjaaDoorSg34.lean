/-
  AbsXu: parts of the proof.
-/
import Derived.Test.YtobphhjcadjfjaaDoorSg33
namespace Go.Abs
section
variable {P:Program} {N:Nat} {B:List AObj} {h0 h:Heap} {L:List Slot} {ρ:Operand->Value} {d:Option Tmp} {ty:TypeId} {pos:String} {af:Array Edge} {gd:Option (Nat×Bool)}
theorem yQ {k:IntKind}{a y:Nat} (h:a<=y):bnd (.int k (Int.ofNat a)) y=some a:=if_pos ⟨Int.natCast_nonneg a,Int.ofNat_le.2 h⟩
structure SrcOk {α:Type} (h:Heap) (s:Nat) (v:Value) (enc:α->Value) (src:List α):Prop where
 len:lenOf v=some src.length
 first:∀ m,m<=src.length->firstOf h s m v=some (flatC ((src.take m).map enc))
theorem wh {α:Type}{enc:α->Value}{s:Nat} (hs:∀ x:α,(cl (enc x)).length=s) (l:List α) (o m:Nat) (h:o+m<=l.length):((flatC (l.map enc)).drop (0+o*s)).take (m*s)=flatC (((l.drop o).take m).map enc):=by
 have e1:flatC (l.map enc)=flatC ((l.take o).map enc)++(flatC (((l.drop o).take m).map enc)++flatC (((l.drop o).drop m).map enc)):=by
  rw[<- bG,<- List.map_append,List.take_append_drop,<- bG,<- List.map_append,List.take_append_drop]
 have e2:(flatC ((l.take o).map enc)).length=0+o*s:=by rw[bk hs,List.length_take,Nat.min_eq_left (by omega)];omega
 have e3:(flatC (((l.drop o).take m).map enc)).length=m*s:=by rw[bk hs,List.length_take,List.length_drop,Nat.min_eq_left (by omega)]
 rw[e1,List.drop_left' e2,List.take_left' e3]
theorem pv {α:Type}{enc:α->Value}{s:Nat} (hs:∀ x:α,(cl (enc x)).length=s) (l:List α) (o:Nat) (new:List α) (h:o+new.length<=l.length):bA (flatC (l.map enc)) (0+o*s) (flatC (new.map enc))=flatC ((l.take o++(new++l.drop (o+new.length))).map enc):=by
 unfold bA
 have e1:flatC (l.map enc)=flatC ((l.take o).map enc)++flatC ((l.drop o).map enc):=by rw[<- bG,<- List.map_append,List.take_append_drop]
 have e2:(flatC ((l.take o).map enc)).length=0+o*s:=by rw[bk hs,List.length_take,Nat.min_eq_left (by omega)];omega
 have e3:flatC (l.map enc)=flatC ((l.take (o+new.length)).map enc)++flatC ((l.drop (o+new.length)).map enc):=by rw[<- bG,<- List.map_append,List.take_append_drop]
 have e4:(flatC ((l.take (o+new.length)).map enc)).length=0+o*s+(flatC (new.map enc)).length:=by
  rw[bk hs,bk hs,List.length_take,Nat.min_eq_left (by omega),Nat.add_mul];omega
 have e5:(flatC (l.map enc)).take (0+o*s)=flatC ((l.take o).map enc):=by rw[e1];exact List.take_left' e2
 have e6:(flatC (l.map enc)).drop (0+o*s+(flatC (new.map enc)).length)=flatC ((l.drop (o+new.length)).map enc):=by
  conv=>lhs;rw[e3]
  exact List.drop_left' e4
 rw[e5,e6,List.map_append,List.map_append,bG,bG,List.append_assoc]
theorem tJ {α:Type}{enc:α->Value} (hone:∀ x:α,(cl (enc x)).all Value.oneCell'=true) (l:List α):(flatC (l.map enc)).all Value.oneCell'=true:=by
 rw[List.all_eq_true]
 intro v m
 simp only[flatC,List.mem_flatMap,List.mem_map] at m
 obtain⟨_,⟨a,_,rfl⟩,m⟩:=m
 exact List.all_eq_true.1 (hone a) v m
theorem At.same {s:Slot}{L:List Slot}{f:Slot->List Slot} (A:At s L f):f s=L:=by
 induction A with
 |head L=>rfl
 |tail r _ ih=>exact congrArg (List.cons r) ih
end
end Go.Abs
