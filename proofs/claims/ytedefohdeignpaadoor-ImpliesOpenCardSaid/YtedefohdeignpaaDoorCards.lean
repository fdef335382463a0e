/-
  DERIVED. GIVEN WITH THE SEED: THE CARDS: each row of YtedefohdeignpaaDoorRows.lean that lists a variable, with what it lists TIED to the program's text (the seventh form; the later family's looks); each row that meets fmt, with fmt's text TOLD by the authors' own Lean function (tested against real Go, not proved from fmt's source: count such statements apart). THE CARD IS WHAT COUNTS. Prove the row's statement (the work); the ties are given (YtedefohdeignpaaDoorTie.lean); close each card by the builder's one call (the guide's Derived/Test/ToyasCard.lean, 'card_holds'). Laid BY PROGRAM, IN A SANDBOX (cutbox-door.mjs). By AI agents, Wed Nov 11 2026. No macro, syntax, notation, axiom, sorry.
-/
import Derived.Test.YtedefohdeignpaaDoorRows
import GoSem.ClaimSeven
namespace Go.Proofs.YtedefohdeignpaaDoor
namespace Rows

/-- THE TIED CARD OF 'probecardlaw24.ImpliesGate'. -/
def impliesGateCard : Claim7 := { stood := { row := impliesGateRow, standIns := [], harness := (true, "e04c3f389786c19c572c030daad4ff19a9faeee0ead161ecce1cc4db53efa264"), looks := false }, kinds := [], alts := [], laidByText := true, laidKinds := [.data], laidTests := true, laidLooks := .later }
def ImpliesGateCardSaid : Prop := Claim7.holds Tryd.pinned (.plain (OpenSpec.ofChange impliesGateSpec)) impliesGateCard

/-- THE TIED CARD OF 'probecardlaw24.ImpliesErrors'. -/
def impliesErrorsCard : Claim7 := { stood := { row := impliesErrorsRow, standIns := [], harness := (true, "e04c3f389786c19c572c030daad4ff19a9faeee0ead161ecce1cc4db53efa264"), looks := false }, kinds := [], alts := [], laidByText := true, laidKinds := [.data], laidTests := true, laidLooks := .later }
def ImpliesErrorsCardSaid : Prop := Claim7.holds Tryd.pinned (.plain (OpenSpec.ofChange impliesErrorsSpec)) impliesErrorsCard

/-- THE TIED CARD OF 'probecardlaw24.ImpliesKnown'. -/
def impliesKnownCard : Claim7 := { stood := { row := impliesKnownRow, standIns := [], harness := (true, "e04c3f389786c19c572c030daad4ff19a9faeee0ead161ecce1cc4db53efa264"), looks := false }, kinds := [], alts := [], laidByText := true, laidKinds := [.data], laidTests := true, laidLooks := .later }
def ImpliesKnownCardSaid : Prop := Claim7.holds Tryd.pinned (.plain (OpenSpec.ofChange impliesKnownSpec)) impliesKnownCard

/-- THE TIED CARD OF 'probecardlaw24.ImpliesSound'. -/
def impliesSoundCard : Claim7 := { stood := { row := impliesSoundRow, standIns := [], harness := (true, "e04c3f389786c19c572c030daad4ff19a9faeee0ead161ecce1cc4db53efa264"), looks := false }, kinds := [], alts := [], laidByText := true, laidKinds := [.data], laidTests := true, laidLooks := .later }
def ImpliesSoundCardSaid : Prop := Claim7.holds Tryd.pinned (.plain (OpenSpec.ofChange impliesSoundSpec)) impliesSoundCard

/-- THE TIED CARD OF 'probecardlaw24.ImpliesOpen'. -/
def impliesOpenCard : Claim7 := { stood := { row := impliesOpenRow, standIns := [], harness := (true, "e04c3f389786c19c572c030daad4ff19a9faeee0ead161ecce1cc4db53efa264"), looks := false }, kinds := [], alts := [], laidByText := true, laidKinds := [.data], laidTests := true, laidLooks := .later }
def ImpliesOpenCardSaid : Prop := Claim7.holds Tryd.pinned (.plain (OpenSpec.ofChange impliesOpenSpec)) impliesOpenCard

/-- THE SECOND FORM's CARD OF 'probecardlaw24.ImpliesGate'. -/
def impliesGateUptoCard : Claim7 := { stood := { row := impliesGateUptoRow, standIns := [], harness := (true, "e04c3f389786c19c572c030daad4ff19a9faeee0ead161ecce1cc4db53efa264"), looks := false }, kinds := [], alts := [], laidByText := true, laidKinds := [.data], laidTests := true, laidLooks := .later }
def ImpliesGateUptoCardSaid : Prop := Claim7.holds Tryd.pinned (.plain (OpenSpec.upto impliesGateSpec)) impliesGateUptoCard

/-- THE SECOND FORM's CARD OF 'probecardlaw24.ImpliesErrors'. -/
def impliesErrorsUptoCard : Claim7 := { stood := { row := impliesErrorsUptoRow, standIns := [], harness := (true, "e04c3f389786c19c572c030daad4ff19a9faeee0ead161ecce1cc4db53efa264"), looks := false }, kinds := [], alts := [], laidByText := true, laidKinds := [.data], laidTests := true, laidLooks := .later }
def ImpliesErrorsUptoCardSaid : Prop := Claim7.holds Tryd.pinned (.plain (OpenSpec.upto impliesErrorsSpec)) impliesErrorsUptoCard

/-- THE SECOND FORM's CARD OF 'probecardlaw24.ImpliesKnown'. -/
def impliesKnownUptoCard : Claim7 := { stood := { row := impliesKnownUptoRow, standIns := [], harness := (true, "e04c3f389786c19c572c030daad4ff19a9faeee0ead161ecce1cc4db53efa264"), looks := false }, kinds := [], alts := [], laidByText := true, laidKinds := [.data], laidTests := true, laidLooks := .later }
def ImpliesKnownUptoCardSaid : Prop := Claim7.holds Tryd.pinned (.plain (OpenSpec.upto impliesKnownSpec)) impliesKnownUptoCard

/-- THE SECOND FORM's CARD OF 'probecardlaw24.ImpliesSound'. -/
def impliesSoundUptoCard : Claim7 := { stood := { row := impliesSoundUptoRow, standIns := [], harness := (true, "e04c3f389786c19c572c030daad4ff19a9faeee0ead161ecce1cc4db53efa264"), looks := false }, kinds := [], alts := [], laidByText := true, laidKinds := [.data], laidTests := true, laidLooks := .later }
def ImpliesSoundUptoCardSaid : Prop := Claim7.holds Tryd.pinned (.plain (OpenSpec.upto impliesSoundSpec)) impliesSoundUptoCard

/-- THE SECOND FORM's CARD OF 'probecardlaw24.ImpliesOpen'. -/
def impliesOpenUptoCard : Claim7 := { stood := { row := impliesOpenUptoRow, standIns := [], harness := (true, "e04c3f389786c19c572c030daad4ff19a9faeee0ead161ecce1cc4db53efa264"), looks := false }, kinds := [], alts := [], laidByText := true, laidKinds := [.data], laidTests := true, laidLooks := .later }
def ImpliesOpenUptoCardSaid : Prop := Claim7.holds Tryd.pinned (.plain (OpenSpec.upto impliesOpenSpec)) impliesOpenUptoCard
end Rows
end Go.Proofs.YtedefohdeignpaaDoor
