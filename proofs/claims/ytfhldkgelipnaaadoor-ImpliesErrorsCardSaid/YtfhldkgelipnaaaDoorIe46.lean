/-
  Proved here: for every input, 'ImpliesErrors' returns true, ends, panics nowhere, and its arguments read behind the call as they read before.
  Conditions: those of the given card alone ('Rows.ImpliesErrorsCardSaid'): the variable logic.fanins holds what the row lists, which the card ties to the program's text; no other.
-/
import Derived.Test.YtfhldkgelipnaaaDoorIe45
import Derived.Test.YtfhldkgelipnaaaDoorCards
namespace Go.Proofs.YtfhldkgelipnaaaDoor
open Go.Abs Go.ChangeShapes Go.RowKit Go.ChangeAt
set_option maxRecDepth 100000
def impliesErrors_shape : List (Sh × Bool) := impliesErrors_sh
theorem impliesErrors_lifted (os : Os) (started : os.Started) (H : Type) (enc : TypeId × Value → H) :
    ReturnsInHanded {} Tryd.checked os 3 .any (fun w args => (Rows.impliesErrorsSpec.pre enc Tryd.prog Tryd.f3 [] false w args ∧ laidMetH Tryd.prog laid w) ∧ sizedMet enc Tryd.prog Tryd.f3 (OpenSpec.ofChange Rows.impliesErrorsSpec) false w args)
      (Rows.impliesErrorsSpec.post enc Tryd.prog Tryd.f3 false true false false) := by
  refine law_lift (C := Tryd.checked) (X := fun w _ => laidMetH Tryd.prog laid w) (fun _ _ _ hh h => h.of_heap hh) own started (by kernel_rfl) Tryd.func3
    (ChangeSpec.witness_shaped (enc := enc) (C := Tryd.checked) (os := os) (X := fun w _ => laidMetH Tryd.prog laid w) false (World.doorLaid Tryd.prog 400 os) #[.agg #[u8 0, u8 0, u8 0, u8 0, .bool false, .bool false, u8 0, u8 0, u8 0, u8 0, .slice none 0 0, .slice none 0 0], .int .i64 0, .slice none 0 0] 8 rfl (World.shaped_of_RefB (by kernel_rfl) (by kernel_rfl)) (by kernel_rfl) (by kernel_rfl) (by kernel_rfl) (door_met os _))
    laidOut rfl (fun ds hds => ?_) (by kernel_rfl) (tb := 4) (by kernel_rfl) Tryd.underlying4
    (law_run (d := 24) impliesErrors_shape Tryd.func3 rfl (by rw [Tryd.params3]; exact ⟨by kernel_rfl, by kernel_rfl, by kernel_rfl, by kernel_rfl, by kernel_rfl, by kernel_rfl, trivial⟩) impliesErrors_call)
  rw [Tryd.params3] at hds
  match ds, hds with
  | [d0, d1, d2], _ => rfl
theorem impliesErrors_holds : Rows.ImpliesErrorsSaid :=
  OpenClaim.holds_of_wide 3 Tryd.f3 rfl rfl rfl rfl rfl rfl rfl ⟨rfl, rfl, rfl, rfl, rfl⟩ rfl rfl rfl rfl rfl (by kernel_rfl) Tryd.func3 (by kernel_rfl)
    (of_decide_eq_true (by kernel_rfl)) (by unfold Func.isWrapper; first | (rw [if_pos (by decide +kernel)]; kernel_rfl) | (rw [if_neg (by decide +kernel)]; exact ⟨rfl, rfl⟩))
    (fun os started H enc _ => impliesErrors_lifted os started H enc)
theorem impliesErrors_card : Rows.ImpliesErrorsCardSaid :=
  Claim7.holds_tied_plain_at .later [] [.data] true (true, "94a7b4972243810e0ddf86fba2428aabcd57cf41871174d095171b3b456ed90e") false
    impliesErrors_holds (fun _ h => by cases h) (by kernel_rfl) (fun _ h => by cases h) impliesErrors_row_tie rfl ⟨rfl, rfl⟩ (by kernel_rfl) rfl
    (fun f fn hf hfn => by
      obtain rfl : f = 3 := Option.some.inj ((show Tryd.prog.funcNamed "probecard/probecardlaw24.ImpliesErrors" = some 3 by kernel_rfl).symm.trans hf) |>.symm
      obtain rfl : fn = Tryd.f3 := (Option.some.inj (Tryd.func3.symm.trans hfn)).symm
      exact ⟨by kernel_rfl, fun j t ht => by
        have hm := Array.mem_of_getElem? ht
        have hall : (Tryd.f3.params.all fun u => !Tryd.prog.wantsStandIn u) = true := by kernel_rfl
        exact (show Tryd.prog.wantsStandIn t = false by simpa using Array.all_eq_true_iff_forall_mem.1 hall t hm)⟩)
    (by kernel_rfl)
#print axioms impliesErrors_card
end Go.Proofs.YtfhldkgelipnaaaDoor
