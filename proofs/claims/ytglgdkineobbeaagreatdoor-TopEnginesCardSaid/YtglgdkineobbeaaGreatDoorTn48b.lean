/- Parts of the proof. -/
import Derived.Test.YtglgdkineobbeaaGreatDoorTn48
namespace Go.Proofs.YtglgdkineobbeaaGreatDoor
open Go.Abs
set_option maxRecDepth 100000
structure FailT where
 test:Int
 next:Bool
 index:Int
def AU(x:FailT):Value:=.agg ⟨[z64 x.test,.bool x.next,z64 x.index]⟩
def qD:Circ:=⟨[⟨0,[],0,0⟩,⟨0,[],0,0⟩,⟨8,[0,1],0,0⟩],[⟨#[97]⟩,⟨#[98]⟩,⟨#[121]⟩],[],[2]⟩
def J3:List Pat:=[⟨[1,0],[]⟩,⟨[0,0],[]⟩]
def J7:Flt:=⟨0,⟨2,Int.negSucc 0⟩,0,0⟩
abbrev zz(r:List FailT×Nat):Value:=.tuple ⟨[ae 3 AU r.1,i64 r.2]⟩
theorem IZ:oW NG (zz ([⟨1,false,0⟩],0)) (km Tryz.prog [] (pe Tryz.prog) 60 13 ⟨[az qD,ay J7,ae 2 aE J3]⟩ (cj vars))=true:=by kernel_rfl
end Go.Proofs.YtglgdkineobbeaaGreatDoor
