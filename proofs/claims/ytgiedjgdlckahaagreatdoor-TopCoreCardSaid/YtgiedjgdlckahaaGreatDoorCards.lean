/-
  DERIVED. GIVEN WITH THE SEED: THE CARDS: each row of YtgiedjgdlckahaaGreatDoorRows.lean that lists a variable, with what it lists TIED to the program's text (the seventh form; the later family's looks); each row that meets fmt, with fmt's text TOLD by the authors' own Lean function (tested against real Go, not proved from fmt's source: count such statements apart). THE CARD IS WHAT COUNTS. Prove the row's statement (the work); the ties are given (YtgiedjgdlckahaaGreatDoorTie.lean); close each card by the builder's one call (the guide's Derived/Test/ToyasCard.lean, 'card_holds'). Laid BY PROGRAM, IN A SANDBOX (cutbox-door.mjs). By AI agents, Wed Nov 11 2026. No macro, syntax, notation, axiom, sorry.
-/
import Derived.Test.YtgiedjgdlckahaaGreatDoorRows
import GoSem.ClaimSeven
namespace Go.Proofs.YtgiedjgdlckahaaGreatDoor
namespace Rows

/-- THE TIED CARD OF 'probecardtop.TopPath'. -/
def topPathCard : Claim7 := { stood := { row := topPathRow, standIns := [], harness := (true, "546409f2c6c6d03beabd19b797d0ba561d812260f096acd925bc850098dcd83e"), looks := false }, kinds := [], alts := [], laidByText := true, laidKinds := [.data], laidTests := true, laidLooks := .later }
def TopPathCardSaid : Prop := Claim7.holds Tryz.pinned (.plain (OpenSpec.ofChange topPathSpec)) topPathCard

/-- THE TIED CARD OF 'probecardtop.TopEngines'. -/
def topEnginesCard : Claim7 := { stood := { row := topEnginesRow, standIns := [], harness := (true, "546409f2c6c6d03beabd19b797d0ba561d812260f096acd925bc850098dcd83e"), looks := false }, kinds := [], alts := [], laidByText := true, laidKinds := [.data, .data], laidTests := true, laidLooks := .later }
def TopEnginesCardSaid : Prop := Claim7.holds Tryz.pinned (.plain (OpenSpec.ofChange topEnginesSpec)) topEnginesCard

/-- THE TIED CARD OF 'probecardtop.TopCore'. -/
def topCoreCard : Claim7 := { stood := { row := topCoreRow, standIns := [], harness := (true, "546409f2c6c6d03beabd19b797d0ba561d812260f096acd925bc850098dcd83e"), looks := false }, kinds := [], alts := [], laidByText := true, laidKinds := [.data, .data], laidTests := true, laidLooks := .later }
def TopCoreCardSaid : Prop := Claim7.holds Tryz.pinned (.plain (OpenSpec.ofChange topCoreSpec)) topCoreCard

/-- THE SECOND FORM's CARD OF 'probecardtop.TopPath'. -/
def topPathUptoCard : Claim7 := { stood := { row := topPathUptoRow, standIns := [], harness := (true, "546409f2c6c6d03beabd19b797d0ba561d812260f096acd925bc850098dcd83e"), looks := false }, kinds := [], alts := [], laidByText := true, laidKinds := [.data], laidTests := true, laidLooks := .later }
def TopPathUptoCardSaid : Prop := Claim7.holds Tryz.pinned (.plain (OpenSpec.upto topPathSpec)) topPathUptoCard

/-- THE SECOND FORM's CARD OF 'probecardtop.TopEngines'. -/
def topEnginesUptoCard : Claim7 := { stood := { row := topEnginesUptoRow, standIns := [], harness := (true, "546409f2c6c6d03beabd19b797d0ba561d812260f096acd925bc850098dcd83e"), looks := false }, kinds := [], alts := [], laidByText := true, laidKinds := [.data, .data], laidTests := true, laidLooks := .later }
def TopEnginesUptoCardSaid : Prop := Claim7.holds Tryz.pinned (.plain (OpenSpec.upto topEnginesSpec)) topEnginesUptoCard

/-- THE SECOND FORM's CARD OF 'probecardtop.TopCore'. -/
def topCoreUptoCard : Claim7 := { stood := { row := topCoreUptoRow, standIns := [], harness := (true, "546409f2c6c6d03beabd19b797d0ba561d812260f096acd925bc850098dcd83e"), looks := false }, kinds := [], alts := [], laidByText := true, laidKinds := [.data, .data], laidTests := true, laidLooks := .later }
def TopCoreUptoCardSaid : Prop := Claim7.holds Tryz.pinned (.plain (OpenSpec.upto topCoreSpec)) topCoreUptoCard
end Rows
end Go.Proofs.YtgiedjgdlckahaaGreatDoor
