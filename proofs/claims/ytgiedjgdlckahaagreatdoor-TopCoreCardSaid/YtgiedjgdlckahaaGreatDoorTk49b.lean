/-
  Knc: parts of the proof.
-/
import Derived.Test.YtgiedjgdlckahaaGreatDoorTk49
namespace Go.Proofs.YtgiedjgdlckahaaGreatDoor
open Go.Abs
set_option maxRecDepth 100000
theorem zk:my NG (xD (JM,0)) (je Tryz.prog [] (ni Tryz.prog) 60 43 ⟨[ar pv,ah 5 az I9]⟩ (bJ vars))=true:=by kernel_rfl
end Go.Proofs.YtgiedjgdlckahaaGreatDoor
