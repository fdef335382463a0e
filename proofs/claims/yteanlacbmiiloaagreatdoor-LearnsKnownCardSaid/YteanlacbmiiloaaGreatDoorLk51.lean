/-
  Proved here: for every input, 'LearnsKnown' returns true, ends, panics nowhere, and its arguments read behind the call as they read before.
  Conditions: those of the given card alone ('Rows.LearnsKnownCardSaid'): the variable logic.fanins holds what the row lists, which the card ties to the program's text; no other.
-/
import Derived.Test.YteanlacbmiiloaaGreatDoorLk50
import Derived.Test.YteanlacbmiiloaaGreatDoorCards
namespace Go.Proofs.YteanlacbmiiloaaGreatDoor
open Go.Abs Go.ChangeShapes Go.RowKit Go.ChangeAt
set_option maxRecDepth 100000
def learnsKnown_shape:List (Sh×Bool):=learnsKnown_sh
theorem learnsKnown_lifted (os:Os) (started:os.Started) (H:Type) (enc:TypeId×Value→H) :
  ReturnsInHanded {} Tryz.checked os 7 .any (fun w args=>(Rows.learnsKnownSpec.pre enc Tryz.prog Tryz.f7 [] false w args∧laidMetH Tryz.prog laid w)∧sizedMet enc Tryz.prog Tryz.f7 (OpenSpec.ofChange Rows.learnsKnownSpec) false w args)
   (Rows.learnsKnownSpec.post enc Tryz.prog Tryz.f7 false true false false):=by
 refine law_lift (C:=Tryz.checked) (X:=fun w _=>laidMetH Tryz.prog laid w) (fun _ _ _ hh h=>h.of_heap hh) own started (by kernel_rfl) Tryz.func7
  (ChangeSpec.witness_shaped (enc:=enc) (C:=Tryz.checked) (os:=os) (X:=fun w _=>laidMetH Tryz.prog laid w) false (World.doorLaid Tryz.prog 400 os) #[] 8 rfl (World.shaped_of_RefB (by kernel_rfl) (by kernel_rfl)) (by kernel_rfl) (by kernel_rfl) (by kernel_rfl) (door_met os _))
  laidOut rfl (fun ds hds=>?_) (by kernel_rfl) (tb:=4) (by kernel_rfl) Tryz.underlying4
  (law_run (d:=24) learnsKnown_shape Tryz.func7 rfl (by rw[Tryz.params7];exact trivial) learnsKnown_call)
 rw[Tryz.params7] at hds
 match ds,hds with
 |[],_=>rfl
theorem learnsKnown_holds:Rows.LearnsKnownSaid :=
 OpenClaim.holds_of_wide 7 Tryz.f7 rfl rfl rfl rfl rfl rfl rfl ⟨rfl,rfl,rfl,rfl,rfl⟩ rfl rfl rfl rfl rfl (by kernel_rfl) Tryz.func7 (by kernel_rfl)
  (of_decide_eq_true (by kernel_rfl)) (by unfold Func.isWrapper;first | (rw[if_pos (by decide +kernel)];kernel_rfl) | (rw[if_neg (by decide +kernel)];exact⟨rfl,rfl⟩))
  (fun os started H enc _=>learnsKnown_lifted os started H enc)
theorem learnsKnown_card:Rows.LearnsKnownCardSaid :=
 Claim7.holds_tied_plain_at .later [] [.data] true (true, "bd55b5d43cd1de400904fbed298db0441f01846f7296209075a46989b1f5058f") false
  learnsKnown_holds (fun _ h=>by cases h) (by kernel_rfl) (fun _ h=>by cases h) learnsKnown_row_tie rfl ⟨rfl,rfl⟩ (by kernel_rfl) rfl
  (fun f fn hf hfn=>by
   obtain rfl : f = 7 := Option.some.inj ((show Tryz.prog.funcNamed "probecard/probecardlaw25.LearnsKnown" = some 7 by kernel_rfl).symm.trans hf) |>.symm
   obtain rfl:fn=Tryz.f7:=(Option.some.inj (Tryz.func7.symm.trans hfn)).symm
   exact⟨by kernel_rfl,fun j t ht=>by
    have hm:=Array.mem_of_getElem? ht
    have hall:(Tryz.f7.params.all fun u => !Tryz.prog.wantsStandIn u)=true:=by kernel_rfl
    exact (show Tryz.prog.wantsStandIn t=false by simpa using Array.all_eq_true_iff_forall_mem.1 hall t hm)⟩)
  (by kernel_rfl)
#print axioms learnsKnown_card
end Go.Proofs.YteanlacbmiiloaaGreatDoor
