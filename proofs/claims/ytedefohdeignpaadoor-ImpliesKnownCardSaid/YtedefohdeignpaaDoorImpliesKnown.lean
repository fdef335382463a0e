/-
  ImpliesKnown, off its arguments.
-/
import Derived.Test.YtedefohdeignpaaDoorKnown1
import Derived.Test.YtedefohdeignpaaDoorDoor
namespace Go.Proofs.YtedefohdeignpaaDoor
open Go.Abs
set_option maxRecDepth 100000

def impliesKnown_sh : List (Sh × Bool) := []

theorem impliesKnown_call (x : DenL impliesKnown_sh) (_w : wfL impliesKnown_sh x) : FnV Tryd.prog NG vars 5 ⟨argL impliesKnown_sh x⟩ (.bool true) := known_fn
end Go.Proofs.YtedefohdeignpaaDoor
