/-
  DERIVED. GIVEN WITH THE SEED: THE CARDS: each row of YtfhldkgelipnaaaDoorRows.lean that lists a variable, with what it lists TIED to the program's text (the seventh form; the later family's looks); each row that meets fmt, with fmt's text TOLD by the authors' own Lean function (tested against real Go, not proved from fmt's source: count such statements apart). THE CARD IS WHAT COUNTS. Prove the row's statement (the work); the ties are given (YtfhldkgelipnaaaDoorTie.lean); close each card by the builder's one call (the guide's Derived/Test/ToyasCard.lean, 'card_holds'). Laid BY PROGRAM, IN A SANDBOX (cutbox-door.mjs). By AI agents, Wed Nov 11 2026. No macro, syntax, notation, axiom, sorry.
-/
import Derived.Test.YtfhldkgelipnaaaDoorRows
import GoSem.ClaimSeven
namespace Go.Proofs.YtfhldkgelipnaaaDoor
namespace Rows

/-- THE TIED CARD OF 'probecardlaw24.ImpliesErrors'. -/
def impliesErrorsCard : Claim7 := { stood := { row := impliesErrorsRow, standIns := [], harness := (true, "94a7b4972243810e0ddf86fba2428aabcd57cf41871174d095171b3b456ed90e"), looks := false }, kinds := [], alts := [], laidByText := true, laidKinds := [.data], laidTests := true, laidLooks := .later }
def ImpliesErrorsCardSaid : Prop := Claim7.holds Tryd.pinned (.plain (OpenSpec.ofChange impliesErrorsSpec)) impliesErrorsCard

/-- THE TIED CARD OF 'probecardlaw24.ImpliesSound'. -/
def impliesSoundCard : Claim7 := { stood := { row := impliesSoundRow, standIns := [], harness := (true, "94a7b4972243810e0ddf86fba2428aabcd57cf41871174d095171b3b456ed90e"), looks := false }, kinds := [], alts := [], laidByText := true, laidKinds := [.data], laidTests := true, laidLooks := .later }
def ImpliesSoundCardSaid : Prop := Claim7.holds Tryd.pinned (.plain (OpenSpec.ofChange impliesSoundSpec)) impliesSoundCard

/-- THE SECOND FORM's CARD OF 'probecardlaw24.ImpliesErrors'. -/
def impliesErrorsUptoCard : Claim7 := { stood := { row := impliesErrorsUptoRow, standIns := [], harness := (true, "94a7b4972243810e0ddf86fba2428aabcd57cf41871174d095171b3b456ed90e"), looks := false }, kinds := [], alts := [], laidByText := true, laidKinds := [.data], laidTests := true, laidLooks := .later }
def ImpliesErrorsUptoCardSaid : Prop := Claim7.holds Tryd.pinned (.plain (OpenSpec.upto impliesErrorsSpec)) impliesErrorsUptoCard

/-- THE SECOND FORM's CARD OF 'probecardlaw24.ImpliesSound'. -/
def impliesSoundUptoCard : Claim7 := { stood := { row := impliesSoundUptoRow, standIns := [], harness := (true, "94a7b4972243810e0ddf86fba2428aabcd57cf41871174d095171b3b456ed90e"), looks := false }, kinds := [], alts := [], laidByText := true, laidKinds := [.data], laidTests := true, laidLooks := .later }
def ImpliesSoundUptoCardSaid : Prop := Claim7.holds Tryd.pinned (.plain (OpenSpec.upto impliesSoundSpec)) impliesSoundUptoCard
end Rows
end Go.Proofs.YtfhldkgelipnaaaDoor
