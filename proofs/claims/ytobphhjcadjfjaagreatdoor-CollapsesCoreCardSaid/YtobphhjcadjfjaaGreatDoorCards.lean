/-
  DERIVED. GIVEN WITH THE SEED: THE CARDS: each row of YtobphhjcadjfjaaGreatDoorRows.lean that lists a variable, with what it lists TIED to the program's text (the seventh form; the later family's looks); each row that meets fmt, with fmt's text TOLD by the authors' own Lean function (tested against real Go, not proved from fmt's source: count such statements apart). THE CARD IS WHAT COUNTS. Prove the row's statement (the work); the ties are given (YtobphhjcadjfjaaGreatDoorTie.lean); close each card by the builder's one call (the guide's Derived/Test/ToyasCard.lean, 'card_holds'). Laid BY PROGRAM, IN A SANDBOX (cutbox-door.mjs). By AI agents, Wed Nov 11 2026. No macro, syntax, notation, axiom, sorry.
-/
import Derived.Test.YtobphhjcadjfjaaGreatDoorRows
import GoSem.ClaimSeven
namespace Go.Proofs.YtobphhjcadjfjaaGreatDoor
namespace Rows

/-- THE TIED CARD OF 'probecardlaw14.CollapsesSame'. -/
def collapsesSameCard : Claim7 := { stood := { row := collapsesSameRow, standIns := [], harness := (true, "257f2efb79e0ded893659c63f8cb892839a98d3ea756ebca12ba4dafe1d03bc3"), looks := false }, kinds := [], alts := [], laidByText := true, laidKinds := [.data], laidTests := true, laidLooks := .later }
def CollapsesSameCardSaid : Prop := Claim7.holds Tryz.pinned (.plain (OpenSpec.ofChange collapsesSameSpec)) collapsesSameCard

/-- THE TIED CARD OF 'probecardlaw14.CollapsesDominance'. -/
def collapsesDominanceCard : Claim7 := { stood := { row := collapsesDominanceRow, standIns := [], harness := (true, "257f2efb79e0ded893659c63f8cb892839a98d3ea756ebca12ba4dafe1d03bc3"), looks := false }, kinds := [], alts := [], laidByText := true, laidKinds := [.data], laidTests := true, laidLooks := .later }
def CollapsesDominanceCardSaid : Prop := Claim7.holds Tryz.pinned (.plain (OpenSpec.ofChange collapsesDominanceSpec)) collapsesDominanceCard

/-- THE TIED CARD OF 'probecardlaw14.CollapsesCore'. -/
def collapsesCoreCard : Claim7 := { stood := { row := collapsesCoreRow, standIns := [], harness := (true, "257f2efb79e0ded893659c63f8cb892839a98d3ea756ebca12ba4dafe1d03bc3"), looks := false }, kinds := [], alts := [], laidByText := true, laidKinds := [.data], laidTests := true, laidLooks := .later }
def CollapsesCoreCardSaid : Prop := Claim7.holds Tryz.pinned (.plain (OpenSpec.ofChange collapsesCoreSpec)) collapsesCoreCard

/-- THE TIED CARD OF 'probecardlaw14.CollapsesExpand'. -/
def collapsesExpandCard : Claim7 := { stood := { row := collapsesExpandRow, standIns := [], harness := (true, "257f2efb79e0ded893659c63f8cb892839a98d3ea756ebca12ba4dafe1d03bc3"), looks := false }, kinds := [], alts := [], laidByText := true, laidKinds := [.data], laidTests := true, laidLooks := .later }
def CollapsesExpandCardSaid : Prop := Claim7.holds Tryz.pinned (.plain (OpenSpec.ofChange collapsesExpandSpec)) collapsesExpandCard

/-- THE SECOND FORM's CARD OF 'probecardlaw14.CollapsesSame'. -/
def collapsesSameUptoCard : Claim7 := { stood := { row := collapsesSameUptoRow, standIns := [], harness := (true, "257f2efb79e0ded893659c63f8cb892839a98d3ea756ebca12ba4dafe1d03bc3"), looks := false }, kinds := [], alts := [], laidByText := true, laidKinds := [.data], laidTests := true, laidLooks := .later }
def CollapsesSameUptoCardSaid : Prop := Claim7.holds Tryz.pinned (.plain (OpenSpec.upto collapsesSameSpec)) collapsesSameUptoCard

/-- THE SECOND FORM's CARD OF 'probecardlaw14.CollapsesDominance'. -/
def collapsesDominanceUptoCard : Claim7 := { stood := { row := collapsesDominanceUptoRow, standIns := [], harness := (true, "257f2efb79e0ded893659c63f8cb892839a98d3ea756ebca12ba4dafe1d03bc3"), looks := false }, kinds := [], alts := [], laidByText := true, laidKinds := [.data], laidTests := true, laidLooks := .later }
def CollapsesDominanceUptoCardSaid : Prop := Claim7.holds Tryz.pinned (.plain (OpenSpec.upto collapsesDominanceSpec)) collapsesDominanceUptoCard

/-- THE SECOND FORM's CARD OF 'probecardlaw14.CollapsesCore'. -/
def collapsesCoreUptoCard : Claim7 := { stood := { row := collapsesCoreUptoRow, standIns := [], harness := (true, "257f2efb79e0ded893659c63f8cb892839a98d3ea756ebca12ba4dafe1d03bc3"), looks := false }, kinds := [], alts := [], laidByText := true, laidKinds := [.data], laidTests := true, laidLooks := .later }
def CollapsesCoreUptoCardSaid : Prop := Claim7.holds Tryz.pinned (.plain (OpenSpec.upto collapsesCoreSpec)) collapsesCoreUptoCard

/-- THE SECOND FORM's CARD OF 'probecardlaw14.CollapsesExpand'. -/
def collapsesExpandUptoCard : Claim7 := { stood := { row := collapsesExpandUptoRow, standIns := [], harness := (true, "257f2efb79e0ded893659c63f8cb892839a98d3ea756ebca12ba4dafe1d03bc3"), looks := false }, kinds := [], alts := [], laidByText := true, laidKinds := [.data], laidTests := true, laidLooks := .later }
def CollapsesExpandUptoCardSaid : Prop := Claim7.holds Tryz.pinned (.plain (OpenSpec.upto collapsesExpandSpec)) collapsesExpandUptoCard
end Rows
end Go.Proofs.YtobphhjcadjfjaaGreatDoor
