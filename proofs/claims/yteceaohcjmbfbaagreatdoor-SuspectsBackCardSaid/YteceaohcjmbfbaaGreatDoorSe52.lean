/-
  Proved here: for every input, 'SuspectsBack' returns true, ends, panics nowhere, and its arguments read behind the call as they read before.
  Conditions: those of the given card alone ('Rows.SuspectsBackCardSaid'): the variable logic.fanins holds what the row lists, which the card ties to the program's text; no other.
-/
import Derived.Test.YteceaohcjmbfbaaGreatDoorSe51
import Derived.Test.YteceaohcjmbfbaaGreatDoorCards
namespace Go.Proofs.YteceaohcjmbfbaaGreatDoor
open Go.Abs Go.ChangeShapes Go.RowKit Go.ChangeAt
set_option maxRecDepth 100000
def mE:List (Sh×Bool):=dy
theorem lL (os:Os) (started:os.Started) (H:Type) (enc:TypeId×Value->H) :
  ReturnsInHanded {} Tryz.checked os 7 .any (fun w args=>(Rows.suspectsBackSpec.pre enc Tryz.prog Tryz.f7 [] false w args/\laidMetH Tryz.prog laid w)/\sizedMet enc Tryz.prog Tryz.f7 (OpenSpec.ofChange Rows.suspectsBackSpec) false w args)
   (Rows.suspectsBackSpec.post enc Tryz.prog Tryz.f7 false true false false):=by
 refine zg (C:=Tryz.checked) (X:=fun w _=>laidMetH Tryz.prog laid w) (fun _ _ _ hh h=>h.of_heap hh) own started (by kernel_rfl) Tryz.func7
  (ChangeSpec.witness_shaped (enc:=enc) (C:=Tryz.checked) (os:=os) (X:=fun w _=>laidMetH Tryz.prog laid w) false (World.doorLaid Tryz.prog 400 os) #[.agg #[u8 0,u8 0,u8 0,u8 0,.bool false,.bool false,u8 0,u8 0,u8 0,u8 0,.slice none 0 0,.slice none 0 0,.slice none 0 0,.slice none 0 0],u8 0] 8 rfl (World.shaped_of_RefB (by kernel_rfl) (by kernel_rfl)) (by kernel_rfl) (by kernel_rfl) (by kernel_rfl) (zh os _))
  laidOut rfl (fun ds hds=>?_) (by kernel_rfl) (tb:=4) (by kernel_rfl) Tryz.underlying4
  (AU (d:=24) mE Tryz.func7 rfl (by rw[Tryz.params7];exact⟨by kernel_rfl,by kernel_rfl,by kernel_rfl,by kernel_rfl,trivial⟩) nK)
 rw[Tryz.params7] at hds
 match ds,hds with
 |[d0,d1],_=>rfl
theorem mo:Rows.SuspectsBackSaid :=
 OpenClaim.holds_of_wide 7 Tryz.f7 rfl rfl rfl rfl rfl rfl rfl ⟨rfl,rfl,rfl,rfl,rfl⟩ rfl rfl rfl rfl rfl (by kernel_rfl) Tryz.func7 (by kernel_rfl)
  (of_decide_eq_true (by kernel_rfl)) (by unfold Func.isWrapper;first | (rw[if_pos (by decide +kernel)];kernel_rfl) | (rw[if_neg (by decide +kernel)];exact⟨rfl,rfl⟩))
  (fun os started H enc _=>lL os started H enc)
theorem suspectsBack_card:Rows.SuspectsBackCardSaid :=
 Claim7.holds_tied_plain_at .later [] [.data] true (true, "11e59f63df3497a80e5602ea6326c1cf75cc26c0e84ede4583d5dfb243fadef1") false
  mo (fun _ h=>by cases h) (by kernel_rfl) (fun _ h=>by cases h) suspectsBack_row_tie rfl ⟨rfl,rfl⟩ (by kernel_rfl) rfl
  (fun f fn hf hfn=>by
   obtain rfl : f = 7 := Option.some.inj ((show Tryz.prog.funcNamed "probecard/probecardlaw22.SuspectsBack" = some 7 by kernel_rfl).symm.trans hf) |>.symm
   obtain rfl:fn=Tryz.f7:=(Option.some.inj (Tryz.func7.symm.trans hfn)).symm
   exact⟨by kernel_rfl,fun j t ht=>by
    have hm:=Array.mem_of_getElem? ht
    have hall:(Tryz.f7.params.all fun u => !Tryz.prog.wantsStandIn u)=true:=by kernel_rfl
    exact (show Tryz.prog.wantsStandIn t=false by simpa using Array.all_eq_true_iff_forall_mem.1 hall t hm)⟩)
  (by kernel_rfl)
#print axioms suspectsBack_card
end Go.Proofs.YteceaohcjmbfbaaGreatDoor
