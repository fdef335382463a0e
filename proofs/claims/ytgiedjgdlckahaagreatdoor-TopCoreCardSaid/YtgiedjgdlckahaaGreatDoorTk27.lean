/-
  Bits: parts of the proof.
-/
import Derived.Test.YtgiedjgdlckahaaGreatDoorTk26
namespace Go.Abs
variable {P:Program} {ρ:Operand->Value} {d:Option Tmp} {ty:TypeId} {pos:String} {af:Array Edge} {gd:Option (Nat×Bool)}
theorem Iv {op:BinOp}{t yt:TypeId}{x y:Operand}{k:IntKind}{a b c:Int} (hop:op=.shl\/op=.shr) (hx:ρ x=.int k a) (hy:ρ y=.int k b) (hr:bK P (Op.shift op k a k b)=some (.int k c)) :
  aq P ρ { dst:=d,op:=.binOp op t x y yt,type:=ty,pos:=pos,after:=af,guard:=gd }=some (.int k c):=by
 have hp:(Op.binOp op t x y yt).operands.all (fun x=>plain (ρ x))=true:=by simp[Op.operands,hx,hy,plain,aJ]
 have hpl:plain (.int k c)=true:=rfl
 have this:bK P (execOp ρ { dst:=d,op:=.binOp op t x y yt,type:=ty,pos:=pos,after:=af,guard:=gd })=some (.value (.int k c)):=by
  rcases hop with rfl|rfl <;>
  ·simp only[execOp,dE,hx,hy,binOp,eqGuard];simp only[hr];rfl
 have that:aW P ρ { dst:=d,op:=.binOp op t x y yt,type:=ty,pos:=pos,after:=af,guard:=gd }=some (.int k c):=by
  unfold aW;rw[if_pos hp,this];simp only[hpl,if_true]
 rcases hop with rfl|rfl <;>
 ·unfold aq;simp only[hx,hy,quick,dK,if_pos];exact that
end Go.Abs
