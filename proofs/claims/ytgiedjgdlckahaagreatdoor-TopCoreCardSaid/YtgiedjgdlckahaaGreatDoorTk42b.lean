/-
  Knc: parts of the proof.
-/
import Derived.Test.YtgiedjgdlckahaaGreatDoorTk42
namespace Go.Proofs.YtgiedjgdlckahaaGreatDoor
open Go.Abs
set_option maxRecDepth 100000
structure FailT where
 test:Int
 next:Bool
 index:Int
def Aq (x:FailT):Value:=.agg ⟨[z64 x.test,.bool x.next,z64 x.index]⟩
def pv:Circ:=⟨[⟨0,[],0,0⟩,⟨0,[],0,0⟩,⟨8,[0,1],0,0⟩],[⟨#[97]⟩,⟨#[98]⟩,⟨#[121]⟩],[],[2]⟩
def I0:List Pat:=[⟨[1,0],[]⟩,⟨[0,0],[]⟩]
def IS:Flt:=⟨0,⟨2,Int.negSucc 0⟩,0,0⟩
abbrev xx (r:List FailT×Nat):Value:=.tuple ⟨[ah 3 Aq r.1,i64 r.2]⟩
theorem Hu:my NG (xx ([⟨1,false,0⟩],0)) (je Tryz.prog [] (ni Tryz.prog) 60 44 ⟨[ar pv,az IS,ah 2 aP I0]⟩ (bJ vars))=true:=by kernel_rfl
end Go.Proofs.YtgiedjgdlckahaaGreatDoor
