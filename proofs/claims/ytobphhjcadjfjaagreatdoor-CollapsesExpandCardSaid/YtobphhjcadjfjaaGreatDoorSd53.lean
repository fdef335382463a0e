/-
  Proved here: for every input, 'CollapsesExpand' returns true, ends, panics nowhere, and its arguments read behind the call as they read before.
  Conditions: those of the given card alone ('Rows.CollapsesExpandCardSaid'): the variable logic.fanins holds what the row lists, which the card ties to the program's text; no other.
-/
import Derived.Test.YtobphhjcadjfjaaGreatDoorSd52
import Derived.Test.YtobphhjcadjfjaaGreatDoorCards
namespace Go.Proofs.YtobphhjcadjfjaaGreatDoor
open Go.Abs Go.ChangeShapes Go.RowKit Go.ChangeAt
set_option maxRecDepth 100000
def lj:List (Sh×Bool):=cN
theorem kG (os:Os) (started:os.Started) (H:Type) (enc:TypeId×Value->H) :
  ReturnsInHanded {} Tryz.checked os 6 .any (fun w args=>(Rows.collapsesExpandSpec.pre enc Tryz.prog Tryz.f6 [] false w args/\laidMetH Tryz.prog laid w)/\sizedMet enc Tryz.prog Tryz.f6 (OpenSpec.ofChange Rows.collapsesExpandSpec) false w args)
   (Rows.collapsesExpandSpec.post enc Tryz.prog Tryz.f6 false true false false):=by
 refine Bp (C:=Tryz.checked) (X:=fun w _=>laidMetH Tryz.prog laid w) (fun _ _ _ hh h=>h.of_heap hh) own started (by kernel_rfl) Tryz.func6
  (ChangeSpec.witness_shaped (enc:=enc) (C:=Tryz.checked) (os:=os) (X:=fun w _=>laidMetH Tryz.prog laid w) false (World.doorLaid Tryz.prog 400 os) #[.agg #[u8 0,u8 0,u8 0,u8 0,.bool false,.bool false,u8 0,u8 0,u8 0,u8 0,.slice none 0 0,.slice none 0 0],.agg #[.slice none 0 0,.slice none 0 0],.int .i64 0] 8 rfl (World.shaped_of_RefB (by kernel_rfl) (by kernel_rfl)) (by kernel_rfl) (by kernel_rfl) (by kernel_rfl) (Cq os _))
  laidOut rfl (fun ds hds=>?_) (by kernel_rfl) (tb:=4) (by kernel_rfl) Tryz.underlying4
  (CV (d:=24) lj Tryz.func6 rfl (by rw[Tryz.params6];exact⟨by kernel_rfl,by kernel_rfl,by kernel_rfl,by kernel_rfl,by kernel_rfl,by kernel_rfl,trivial⟩) mb)
 rw[Tryz.params6] at hds
 match ds,hds with
 |[d0,d1,d2],_=>rfl
theorem lr:Rows.CollapsesExpandSaid :=
 OpenClaim.holds_of_wide 6 Tryz.f6 rfl rfl rfl rfl rfl rfl rfl ⟨rfl,rfl,rfl,rfl,rfl⟩ rfl rfl rfl rfl rfl (by kernel_rfl) Tryz.func6 (by kernel_rfl)
  (of_decide_eq_true (by kernel_rfl)) (by unfold Func.isWrapper;first | (rw[if_pos (by decide +kernel)];kernel_rfl) | (rw[if_neg (by decide +kernel)];exact⟨rfl,rfl⟩))
  (fun os started H enc _=>kG os started H enc)
theorem collapsesExpand_card:Rows.CollapsesExpandCardSaid :=
 Claim7.holds_tied_plain_at .later [] [.data] true (true, "257f2efb79e0ded893659c63f8cb892839a98d3ea756ebca12ba4dafe1d03bc3") false
  lr (fun _ h=>by cases h) (by kernel_rfl) (fun _ h=>by cases h) collapsesExpand_row_tie rfl ⟨rfl,rfl⟩ (by kernel_rfl) rfl
  (fun f fn hf hfn=>by
   obtain rfl : f = 6 := Option.some.inj ((show Tryz.prog.funcNamed "probecard/probecardlaw14.CollapsesExpand" = some 6 by kernel_rfl).symm.trans hf) |>.symm
   obtain rfl:fn=Tryz.f6:=(Option.some.inj (Tryz.func6.symm.trans hfn)).symm
   exact⟨by kernel_rfl,fun j t ht=>by
    have hm:=Array.mem_of_getElem? ht
    have hall:(Tryz.f6.params.all fun u => !Tryz.prog.wantsStandIn u)=true:=by kernel_rfl
    exact (show Tryz.prog.wantsStandIn t=false by simpa using Array.all_eq_true_iff_forall_mem.1 hall t hm)⟩)
  (by kernel_rfl)
#print axioms collapsesExpand_card
end Go.Proofs.YtobphhjcadjfjaaGreatDoor
