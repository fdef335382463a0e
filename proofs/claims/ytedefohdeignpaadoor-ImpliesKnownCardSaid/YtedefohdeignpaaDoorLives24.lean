/-
  Closed runs: 'lives', and the two runs of 'wired'.
-/
import Derived.Test.YtedefohdeignpaaDoorBase
namespace Go.Proofs.YtedefohdeignpaaDoor
open Go.Abs
set_option maxRecDepth 100000

theorem lives24 : isTrue (runFn Tryd.prog [] (orcExt Tryd.prog) 60 8 #[] (heapOf vars)) = true := by kernel_rfl
theorem wired0 : isTrue (runFn Tryd.prog [] (orcExt Tryd.prog) 60 19 #[.int .i64 0] (heapOf vars)) = true := by kernel_rfl
theorem wired1 : isTrue (runFn Tryd.prog [] (orcExt Tryd.prog) 60 19 #[.int .i64 1] (heapOf vars)) = true := by kernel_rfl
end Go.Proofs.YtedefohdeignpaaDoor
