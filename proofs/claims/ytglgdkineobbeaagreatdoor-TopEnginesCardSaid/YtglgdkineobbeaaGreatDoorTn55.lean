/-
  Proved here: for every input, 'TopEngines' returns true, ends, panics nowhere, and its arguments read behind the call as they read before.
  Conditions: those of the given card alone ('Rows.TopEnginesCardSaid'): the variables logic.fanins and words.masks hold what the row lists, which the card ties to the program's text; no other.
-/
import Derived.Test.YtglgdkineobbeaaGreatDoorTn53
import Derived.Test.YtglgdkineobbeaaGreatDoorCards
open Go.OpenSpec renaming ofChange->Pp
namespace Go.Proofs.YtglgdkineobbeaaGreatDoor
open Go.Abs Go.ChangeShapes Go.RowKit Go.ChangeAt
set_option maxRecDepth 100000
def tP:List (Sh×Bool):=iw
theorem sg(os:Os)(started:os.Started)(H:Type)(enc:TypeId×Value->H) :
  ReturnsInHanded {} Tryz.checked os 3 .any (λw args=>(Rows.topEnginesSpec.pre enc Tryz.prog Tryz.f3 [] false w args/\laidMetH Tryz.prog laid w)/\sizedMet enc Tryz.prog Tryz.f3 (Pp Rows.topEnginesSpec) false w args)
   (Rows.topEnginesSpec.post enc Tryz.prog Tryz.f3 false true false false):=by
 refine Gg (C:=Tryz.checked) (X:=λw _=>laidMetH Tryz.prog laid w) (λ_ _ _ hh h=>h.of_heap hh) own started (by kernel_rfl) Tryz.func3
  (ChangeSpec.witness_shaped (enc:=enc) (C:=Tryz.checked) (os:=os) (X:=λw _=>laidMetH Tryz.prog laid w) false (World.doorLaid Tryz.prog 400 os) #[.agg #[u8 0,u8 0,u8 0,u8 0,.bool false,.bool false,u8 0,u8 0,u8 0,u8 0,.slice none 0 0,.slice none 0 0],.slice none 0 0] 8 rfl (World.shaped_of_RefB (by kernel_rfl) (by kernel_rfl)) (by kernel_rfl) (by kernel_rfl) (by kernel_rfl) (HG os _))
  laidOut rfl (λds hds=>?_) (by kernel_rfl) (tb:=4) (by kernel_rfl) Tryz.underlying4
  (Ji (d:=24) tP Tryz.func3 rfl (by rw[Tryz.params3];exact⟨by kernel_rfl,by kernel_rfl,by kernel_rfl,by kernel_rfl,trivial⟩) uM)
 rw[Tryz.params3] at hds
 match ds,hds with
 |[d0,d1],_=>rfl
theorem tV:Rows.TopEnginesSaid :=
 OpenClaim.holds_of_wide 3 Tryz.f3 rfl rfl rfl rfl rfl rfl rfl ⟨rfl,rfl,rfl,rfl,rfl⟩ rfl rfl rfl rfl rfl (by kernel_rfl) Tryz.func3 (by kernel_rfl)
  (of_decide_eq_true (by kernel_rfl)) (by unfold Func.isWrapper;first | (rw[if_pos (by decide +kernel)];kernel_rfl) | (rw[if_neg (by decide +kernel)];exact⟨rfl,rfl⟩))
  (λos started H enc _=>sg os started H enc)
theorem topEngines_card:Rows.TopEnginesCardSaid :=
 Claim7.holds_tied_plain_at .later [] [.data, .data] true (true, "01f48fb09d2dcb34ff6faf68ae546a8f952c643f471313d6a8b0d3332f7c74cb") false
  tV (λ_ h=>by cases h) (by kernel_rfl) (λ_ h=>by cases h) topEngines_row_tie rfl ⟨rfl,rfl⟩ (by kernel_rfl) rfl
  (λf fn hf hfn=>by
   obtain rfl : f = 3 := Ni ((show Tryz.prog.funcNamed "probecard/probecardtop.TopEngines" = some 3 by kernel_rfl).symm.trans hf) |>.symm
   obtain rfl:fn=Tryz.f3:=(Ni (Tryz.func3.symm.trans hfn)).symm
   exact⟨by kernel_rfl,λj t ht=>by
    have hm:=M5 ht
    have hall:(Tryz.f3.params.all λu => !Tryz.prog.wantsStandIn u)=true:=by kernel_rfl
    exact (show Tryz.prog.wantsStandIn t=false by simpa using MJ.1 hall t hm)⟩)
  (by kernel_rfl)
#print axioms topEngines_card
end Go.Proofs.YtglgdkineobbeaaGreatDoor
