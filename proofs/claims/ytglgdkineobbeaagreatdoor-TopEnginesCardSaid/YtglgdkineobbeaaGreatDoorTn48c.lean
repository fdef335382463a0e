/- Parts of the proof. -/
import Derived.Test.YtglgdkineobbeaaGreatDoorTn48b
namespace Go.Proofs.YtglgdkineobbeaaGreatDoor
open Go.Abs
set_option maxRecDepth 100000
def K8:List (List Nat):=[[0,6],[1,3,4,7,9],[2,8],[5]]
abbrev zd(r:List (List Nat)×Nat):Value:=.tuple ⟨[ae 1 (ae 1 i64) r.1,i64 r.2]⟩
def kFl:List Flt:=[⟨0,⟨0,Int.negSucc 0⟩,0,0⟩,⟨0,⟨0,Int.negSucc 0⟩,1,0⟩,⟨0,⟨1,Int.negSucc 0⟩,0,0⟩,⟨0,⟨1,Int.negSucc 0⟩,1,0⟩,⟨0,⟨2,Int.negSucc 0⟩,0,0⟩,⟨0,⟨2,Int.negSucc 0⟩,1,0⟩,⟨0,⟨2,0⟩,0,0⟩,⟨0,⟨2,0⟩,1,0⟩,⟨0,⟨2,1⟩,0,0⟩,⟨0,⟨2,1⟩,1,0⟩]
theorem kRun:oW NG (zd (K8,0)) (km Tryz.prog [] (pe Tryz.prog) 60 12 ⟨[az qD,ae 5 ay kFl]⟩ (cj vars))=true:=by kernel_rfl
end Go.Proofs.YtglgdkineobbeaaGreatDoor
