/-
  DERIVED. GIVEN WITH THE SEED: THE CARDS: each row of YtglgdkineobbeaaGreatDoorRows.lean that lists a variable, with what it lists TIED to the program's text (the seventh form; the later family's looks); each row that meets fmt, with fmt's text TOLD by the authors' own Lean function (tested against real Go, not proved from fmt's source: count such statements apart). THE CARD IS WHAT COUNTS. Prove the row's statement (the work); the ties are given (YtglgdkineobbeaaGreatDoorTie.lean); close each card by the builder's one call (the guide's Derived/Test/ToyasCard.lean, 'card_holds'). Laid BY PROGRAM, IN A SANDBOX (cutbox-door.mjs). By AI agents, Wed Nov 11 2026. No macro, syntax, notation, axiom, sorry.
-/
import Derived.Test.YtglgdkineobbeaaGreatDoorRows
import GoSem.ClaimSeven
namespace Go.Proofs.YtglgdkineobbeaaGreatDoor
namespace Rows

/-- THE TIED CARD OF 'probecardtop.TopEngines'. -/
def topEnginesCard : Claim7 := { stood := { row := topEnginesRow, standIns := [], harness := (true, "01f48fb09d2dcb34ff6faf68ae546a8f952c643f471313d6a8b0d3332f7c74cb"), looks := false }, kinds := [], alts := [], laidByText := true, laidKinds := [.data, .data], laidTests := true, laidLooks := .later }
def TopEnginesCardSaid : Prop := Claim7.holds Tryz.pinned (.plain (OpenSpec.ofChange topEnginesSpec)) topEnginesCard

/-- THE SECOND FORM's CARD OF 'probecardtop.TopEngines'. -/
def topEnginesUptoCard : Claim7 := { stood := { row := topEnginesUptoRow, standIns := [], harness := (true, "01f48fb09d2dcb34ff6faf68ae546a8f952c643f471313d6a8b0d3332f7c74cb"), looks := false }, kinds := [], alts := [], laidByText := true, laidKinds := [.data, .data], laidTests := true, laidLooks := .later }
def TopEnginesUptoCardSaid : Prop := Claim7.holds Tryz.pinned (.plain (OpenSpec.upto topEnginesSpec)) topEnginesUptoCard
end Rows
end Go.Proofs.YtglgdkineobbeaaGreatDoor
