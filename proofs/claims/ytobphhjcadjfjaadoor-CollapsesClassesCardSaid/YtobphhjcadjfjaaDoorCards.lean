/-
  DERIVED. GIVEN WITH THE SEED: THE CARDS: each row of YtobphhjcadjfjaaDoorRows.lean that lists a variable, with what it lists TIED to the program's text (the seventh form; the later family's looks); each row that meets fmt, with fmt's text TOLD by the authors' own Lean function (tested against real Go, not proved from fmt's source: count such statements apart). THE CARD IS WHAT COUNTS. Prove the row's statement (the work); the ties are given (YtobphhjcadjfjaaDoorTie.lean); close each card by the builder's one call (the guide's Derived/Test/ToyasCard.lean, 'card_holds'). Laid BY PROGRAM, IN A SANDBOX (cutbox-door.mjs). By AI agents, Wed Nov 11 2026. No macro, syntax, notation, axiom, sorry.
-/
import Derived.Test.YtobphhjcadjfjaaDoorRows
import GoSem.ClaimSeven
namespace Go.Proofs.YtobphhjcadjfjaaDoor
namespace Rows

/-- THE TIED CARD OF 'probecardlaw14.CollapsesRules'. -/
def collapsesRulesCard : Claim7 := { stood := { row := collapsesRulesRow, standIns := [], harness := (true, "41a4fccefe2bde5678ac0dae825dc74ad1df00fb4baf073c9d67c50a5dad617f"), looks := false }, kinds := [], alts := [], laidByText := true, laidKinds := [.data], laidTests := true, laidLooks := .later }
def CollapsesRulesCardSaid : Prop := Claim7.holds Tryd.pinned (.plain (OpenSpec.ofChange collapsesRulesSpec)) collapsesRulesCard

/-- THE TIED CARD OF 'probecardlaw14.CollapsesPairs'. -/
def collapsesPairsCard : Claim7 := { stood := { row := collapsesPairsRow, standIns := [], harness := (true, "41a4fccefe2bde5678ac0dae825dc74ad1df00fb4baf073c9d67c50a5dad617f"), looks := false }, kinds := [], alts := [], laidByText := true, laidKinds := [.data], laidTests := true, laidLooks := .later }
def CollapsesPairsCardSaid : Prop := Claim7.holds Tryd.pinned (.plain (OpenSpec.ofChange collapsesPairsSpec)) collapsesPairsCard

/-- THE TIED CARD OF 'probecardlaw14.CollapsesClasses'. -/
def collapsesClassesCard : Claim7 := { stood := { row := collapsesClassesRow, standIns := [], harness := (true, "41a4fccefe2bde5678ac0dae825dc74ad1df00fb4baf073c9d67c50a5dad617f"), looks := false }, kinds := [], alts := [], laidByText := true, laidKinds := [.data], laidTests := true, laidLooks := .later }
def CollapsesClassesCardSaid : Prop := Claim7.holds Tryd.pinned (.plain (OpenSpec.ofChange collapsesClassesSpec)) collapsesClassesCard

/-- THE SECOND FORM's CARD OF 'probecardlaw14.CollapsesRules'. -/
def collapsesRulesUptoCard : Claim7 := { stood := { row := collapsesRulesUptoRow, standIns := [], harness := (true, "41a4fccefe2bde5678ac0dae825dc74ad1df00fb4baf073c9d67c50a5dad617f"), looks := false }, kinds := [], alts := [], laidByText := true, laidKinds := [.data], laidTests := true, laidLooks := .later }
def CollapsesRulesUptoCardSaid : Prop := Claim7.holds Tryd.pinned (.plain (OpenSpec.upto collapsesRulesSpec)) collapsesRulesUptoCard

/-- THE SECOND FORM's CARD OF 'probecardlaw14.CollapsesPairs'. -/
def collapsesPairsUptoCard : Claim7 := { stood := { row := collapsesPairsUptoRow, standIns := [], harness := (true, "41a4fccefe2bde5678ac0dae825dc74ad1df00fb4baf073c9d67c50a5dad617f"), looks := false }, kinds := [], alts := [], laidByText := true, laidKinds := [.data], laidTests := true, laidLooks := .later }
def CollapsesPairsUptoCardSaid : Prop := Claim7.holds Tryd.pinned (.plain (OpenSpec.upto collapsesPairsSpec)) collapsesPairsUptoCard

/-- THE SECOND FORM's CARD OF 'probecardlaw14.CollapsesClasses'. -/
def collapsesClassesUptoCard : Claim7 := { stood := { row := collapsesClassesUptoRow, standIns := [], harness := (true, "41a4fccefe2bde5678ac0dae825dc74ad1df00fb4baf073c9d67c50a5dad617f"), looks := false }, kinds := [], alts := [], laidByText := true, laidKinds := [.data], laidTests := true, laidLooks := .later }
def CollapsesClassesUptoCardSaid : Prop := Claim7.holds Tryd.pinned (.plain (OpenSpec.upto collapsesClassesSpec)) collapsesClassesUptoCard
end Rows
end Go.Proofs.YtobphhjcadjfjaaDoor
