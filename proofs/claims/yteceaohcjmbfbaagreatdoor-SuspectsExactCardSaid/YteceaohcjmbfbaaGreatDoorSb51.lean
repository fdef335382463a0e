/-
  Proved here: for every input, 'SuspectsExact' returns true, ends, panics nowhere, and its arguments read behind the call as they read before.
  Conditions: those of the given card alone ('Rows.SuspectsExactCardSaid'): the variable logic.fanins holds what the row lists, which the card ties to the program's text; no other.
-/
import Derived.Test.YteceaohcjmbfbaaGreatDoorSb50
import Derived.Test.YteceaohcjmbfbaaGreatDoorCards
namespace Go.Proofs.YteceaohcjmbfbaaGreatDoor
open Go.Abs Go.ChangeShapes Go.RowKit Go.ChangeAt
set_option maxRecDepth 100000
def suspectsExact_shape:List (Sh×Bool):=suspectsExact_sh
theorem suspectsExact_lifted (os:Os) (started:os.Started) (H:Type) (enc:TypeId×Value->H) :
  ReturnsInHanded {} Tryz.checked os 4 .any (fun w args=>(Rows.suspectsExactSpec.pre enc Tryz.prog Tryz.f4 [] false w args/\laidMetH Tryz.prog laid w)/\sizedMet enc Tryz.prog Tryz.f4 (OpenSpec.ofChange Rows.suspectsExactSpec) false w args)
   (Rows.suspectsExactSpec.post enc Tryz.prog Tryz.f4 false true false false):=by
 refine law_lift (C:=Tryz.checked) (X:=fun w _=>laidMetH Tryz.prog laid w) (fun _ _ _ hh h=>h.of_heap hh) own started (by kernel_rfl) Tryz.func4
  (ChangeSpec.witness_shaped (enc:=enc) (C:=Tryz.checked) (os:=os) (X:=fun w _=>laidMetH Tryz.prog laid w) false (World.doorLaid Tryz.prog 400 os) #[.slice none 0 0,.slice none 0 0,u8 0] 8 rfl (World.shaped_of_RefB (by kernel_rfl) (by kernel_rfl)) (by kernel_rfl) (by kernel_rfl) (by kernel_rfl) (door_met os _))
  laidOut rfl (fun ds hds=>?_) (by kernel_rfl) (tb:=4) (by kernel_rfl) Tryz.underlying4
  (law_run (d:=24) suspectsExact_shape Tryz.func4 rfl (by rw[Tryz.params4];exact⟨by kernel_rfl,by kernel_rfl,by kernel_rfl,by kernel_rfl,by kernel_rfl,by kernel_rfl,trivial⟩) suspectsExact_call)
 rw[Tryz.params4] at hds
 match ds,hds with
 |[d0,d1,d2],_=>rfl
theorem suspectsExact_holds:Rows.SuspectsExactSaid :=
 OpenClaim.holds_of_wide 4 Tryz.f4 rfl rfl rfl rfl rfl rfl rfl ⟨rfl,rfl,rfl,rfl,rfl⟩ rfl rfl rfl rfl rfl (by kernel_rfl) Tryz.func4 (by kernel_rfl)
  (of_decide_eq_true (by kernel_rfl)) (by unfold Func.isWrapper;first | (rw[if_pos (by decide +kernel)];kernel_rfl) | (rw[if_neg (by decide +kernel)];exact⟨rfl,rfl⟩))
  (fun os started H enc _=>suspectsExact_lifted os started H enc)
theorem suspectsExact_card:Rows.SuspectsExactCardSaid :=
 Claim7.holds_tied_plain_at .later [] [.data] true (true, "11e59f63df3497a80e5602ea6326c1cf75cc26c0e84ede4583d5dfb243fadef1") false
  suspectsExact_holds (fun _ h=>by cases h) (by kernel_rfl) (fun _ h=>by cases h) suspectsExact_row_tie rfl ⟨rfl,rfl⟩ (by kernel_rfl) rfl
  (fun f fn hf hfn=>by
   obtain rfl : f = 4 := Option.some.inj ((show Tryz.prog.funcNamed "probecard/probecardlaw22.SuspectsExact" = some 4 by kernel_rfl).symm.trans hf) |>.symm
   obtain rfl:fn=Tryz.f4:=(Option.some.inj (Tryz.func4.symm.trans hfn)).symm
   exact⟨by kernel_rfl,fun j t ht=>by
    have hm:=Array.mem_of_getElem? ht
    have hall:(Tryz.f4.params.all fun u => !Tryz.prog.wantsStandIn u)=true:=by kernel_rfl
    exact (show Tryz.prog.wantsStandIn t=false by simpa using Array.all_eq_true_iff_forall_mem.1 hall t hm)⟩)
  (by kernel_rfl)
#print axioms suspectsExact_card
end Go.Proofs.YteceaohcjmbfbaaGreatDoor
