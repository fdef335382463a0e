/-
  Lives24, Lv24: parts of the proof.
-/
import Derived.Test.YtfhldkgelipnaaaDoorIs43
namespace Go.Proofs.YtfhldkgelipnaaaDoor
open Go.Abs
set_option maxRecDepth 100000
theorem lives24 : isTrue (runFn Tryd.prog [] (orcExt Tryd.prog) 60 5 #[] (heapOf vars)) = true := by kernel_rfl
end Go.Proofs.YtfhldkgelipnaaaDoor

namespace Go.Proofs.YtfhldkgelipnaaaDoor
open Go.Abs
set_option maxRecDepth 100000
theorem lives_fn : FnV Tryd.prog NG vars 5 #[] (.bool true) := by
  obtain ⟨h', e⟩ := isTrue_iff lives24
  have c := (runFn_sound hM hP (fun f vs h v e => orcExt_sound f vs h v e) 60 _ _ _ _ _ e).1
  refine ⟨PureV.flatB rfl, fun h b => c.lift (by simp) rfl (bears_vars (hasSize b) (hasVars b))⟩
def law24_lives_wp (K : Bool → Prop) : Prop := K true
theorem law24_lives_walk {K : Bool → Prop} (hm : law24_lives_wp K) {h0 : Heap} (hB : HasB vars h0) : ∃ r, K r ∧ CallD Tryd.prog NG 5 ⟨[]⟩ h0 (Value.bool r) h0 := FnV.walk (enc := Value.bool) lives_fn hm hB
end Go.Proofs.YtfhldkgelipnaaaDoor
