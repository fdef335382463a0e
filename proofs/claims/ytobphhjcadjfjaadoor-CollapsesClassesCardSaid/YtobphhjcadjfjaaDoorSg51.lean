/-
  Proved here: for every input, 'CollapsesClasses' returns true, ends, panics nowhere, and its arguments read behind the call as they read before.
  Conditions: those of the given card alone ('Rows.CollapsesClassesCardSaid'): the variable logic.fanins holds what the row lists, which the card ties to the program's text; no other.
-/
import Derived.Test.YtobphhjcadjfjaaDoorSg50
import Derived.Test.YtobphhjcadjfjaaDoorCards
namespace Go.Proofs.YtobphhjcadjfjaaDoor
open Go.Abs Go.ChangeShapes Go.RowKit Go.ChangeAt
set_option maxRecDepth 100000
def iX:List (Sh×Bool):=bW
theorem iz (os:Os) (started:os.Started) (H:Type) (enc:TypeId×Value->H) :
  ReturnsInHanded {} Tryd.checked os 5 .any (fun w args=>(Rows.collapsesClassesSpec.pre enc Tryd.prog Tryd.f5 [] false w args/\laidMetH Tryd.prog laid w)/\sizedMet enc Tryd.prog Tryd.f5 (OpenSpec.ofChange Rows.collapsesClassesSpec) false w args)
   (Rows.collapsesClassesSpec.post enc Tryd.prog Tryd.f5 false true false false):=by
 refine xV (C:=Tryd.checked) (X:=fun w _=>laidMetH Tryd.prog laid w) (fun _ _ _ hh h=>h.of_heap hh) own started (by kernel_rfl) Tryd.func5
  (ChangeSpec.witness_shaped (enc:=enc) (C:=Tryd.checked) (os:=os) (X:=fun w _=>laidMetH Tryd.prog laid w) false (World.doorLaid Tryd.prog 400 os) #[.agg #[u8 0,u8 0,u8 0,u8 0,.bool false,.bool false,u8 0,u8 0,u8 0,u8 0,.slice none 0 0,.slice none 0 0],.slice none 0 0] 8 rfl (World.shaped_of_RefB (by kernel_rfl) (by kernel_rfl)) (by kernel_rfl) (by kernel_rfl) (by kernel_rfl) (wW os _))
  laidOut rfl (fun ds hds=>?_) (by kernel_rfl) (tb:=4) (by kernel_rfl) Tryd.underlying4
  (zq (d:=24) iX Tryd.func5 rfl (by rw[Tryd.params5];exact⟨by kernel_rfl,by kernel_rfl,by kernel_rfl,by kernel_rfl,trivial⟩) jm)
 rw[Tryd.params5] at hds
 match ds,hds with
 |[d0,d1],_=>rfl
theorem ja:Rows.CollapsesClassesSaid :=
 OpenClaim.holds_of_wide 5 Tryd.f5 rfl rfl rfl rfl rfl rfl rfl ⟨rfl,rfl,rfl,rfl,rfl⟩ rfl rfl rfl rfl rfl (by kernel_rfl) Tryd.func5 (by kernel_rfl)
  (of_decide_eq_true (by kernel_rfl)) (by unfold Func.isWrapper;first | (rw[if_pos (by decide +kernel)];kernel_rfl) | (rw[if_neg (by decide +kernel)];exact⟨rfl,rfl⟩))
  (fun os started H enc _=>iz os started H enc)
theorem collapsesClasses_card:Rows.CollapsesClassesCardSaid :=
 Claim7.holds_tied_plain_at .later [] [.data] true (true, "41a4fccefe2bde5678ac0dae825dc74ad1df00fb4baf073c9d67c50a5dad617f") false
  ja (fun _ h=>by cases h) (by kernel_rfl) (fun _ h=>by cases h) collapsesClasses_row_tie rfl ⟨rfl,rfl⟩ (by kernel_rfl) rfl
  (fun f fn hf hfn=>by
   obtain rfl : f = 5 := Option.some.inj ((show Tryd.prog.funcNamed "probecard/probecardlaw14.CollapsesClasses" = some 5 by kernel_rfl).symm.trans hf) |>.symm
   obtain rfl:fn=Tryd.f5:=(Option.some.inj (Tryd.func5.symm.trans hfn)).symm
   exact⟨by kernel_rfl,fun j t ht=>by
    have hm:=Array.mem_of_getElem? ht
    have hall:(Tryd.f5.params.all fun u => !Tryd.prog.wantsStandIn u)=true:=by kernel_rfl
    exact (show Tryd.prog.wantsStandIn t=false by simpa using Array.all_eq_true_iff_forall_mem.1 hall t hm)⟩)
  (by kernel_rfl)
#print axioms collapsesClasses_card
end Go.Proofs.YtobphhjcadjfjaaDoor
