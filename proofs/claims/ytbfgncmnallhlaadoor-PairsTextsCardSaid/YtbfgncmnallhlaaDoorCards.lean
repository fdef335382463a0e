/-
  DERIVED. GIVEN WITH THE SEED: THE CARDS: each row of YtbfgncmnallhlaaDoorRows.lean that lists a variable, with what it lists TIED to the program's text (the seventh form; the later family's looks); each row that meets fmt, with fmt's text TOLD by the authors' own Lean function (tested against real Go, not proved from fmt's source: count such statements apart). THE CARD IS WHAT COUNTS. Prove the row's statement (the work); the ties are given (YtbfgncmnallhlaaDoorTie.lean); close each card by the builder's one call (the guide's Derived/Test/ToyasCard.lean, 'card_holds'). Laid BY PROGRAM, IN A SANDBOX (cutbox-door.mjs). By AI agents, Wed Nov 11 2026. No macro, syntax, notation, axiom, sorry.
-/
import Derived.Test.YtbfgncmnallhlaaDoorRows
import GoSem.ClaimSeven
namespace Go.Proofs.YtbfgncmnallhlaaDoor
namespace Rows

/-- THE TIED CARD OF 'probecardlaw01.LogicOrder'. -/
def logicOrderCard : Claim7 := { stood := { row := logicOrderRow, standIns := [], harness := (true, "eec8dd77d271f4d87febe67ded3a8ccba381ac9024ede6657da5db07626e1355"), looks := false }, kinds := [], alts := [], laidByText := true, laidKinds := [.data], laidTests := true, laidLooks := .later }
def LogicOrderCardSaid : Prop := Claim7.holds Tryd.pinned (.plain (OpenSpec.ofChange logicOrderSpec)) logicOrderCard

/-- THE TIED CARD OF 'probecardlaw02.PairsEval'. -/
def pairsEvalCard : Claim7 := { stood := { row := pairsEvalRow, standIns := [], harness := (true, "eec8dd77d271f4d87febe67ded3a8ccba381ac9024ede6657da5db07626e1355"), looks := false }, kinds := [], alts := [], laidByText := true, laidKinds := [.data], laidTests := true, laidLooks := .later }
def PairsEvalCardSaid : Prop := Claim7.holds Tryd.pinned (.plain (OpenSpec.ofChange pairsEvalSpec)) pairsEvalCard

/-- THE TIED CARD OF 'probecardlaw02.PairsTexts'. -/
def pairsTextsCard : Claim7 := { stood := { row := pairsTextsRow, standIns := [], harness := (true, "eec8dd77d271f4d87febe67ded3a8ccba381ac9024ede6657da5db07626e1355"), looks := false }, kinds := [], alts := [], laidByText := true, laidKinds := [.data], laidTests := true, laidLooks := .later }
def PairsTextsCardSaid : Prop := Claim7.holds Tryd.pinned (.plain (OpenSpec.ofChange pairsTextsSpec)) pairsTextsCard

/-- THE TIED CARD OF 'probecardlaw02.PairsFive'. -/
def pairsFiveCard : Claim7 := { stood := { row := pairsFiveRow, standIns := [], harness := (true, "eec8dd77d271f4d87febe67ded3a8ccba381ac9024ede6657da5db07626e1355"), looks := false }, kinds := [], alts := [], laidByText := true, laidKinds := [.data], laidTests := true, laidLooks := .later }
def PairsFiveCardSaid : Prop := Claim7.holds Tryd.pinned (.plain (OpenSpec.ofChange pairsFiveSpec)) pairsFiveCard

/-- THE TIED CARD OF 'probecardlaw02.PairsMonotone'. -/
def pairsMonotoneCard : Claim7 := { stood := { row := pairsMonotoneRow, standIns := [], harness := (true, "eec8dd77d271f4d87febe67ded3a8ccba381ac9024ede6657da5db07626e1355"), looks := false }, kinds := [], alts := [], laidByText := true, laidKinds := [.data], laidTests := true, laidLooks := .later }
def PairsMonotoneCardSaid : Prop := Claim7.holds Tryd.pinned (.plain (OpenSpec.ofChange pairsMonotoneSpec)) pairsMonotoneCard

/-- THE TIED CARD OF 'probecardlaw02.PairsJoin'. -/
def pairsJoinCard : Claim7 := { stood := { row := pairsJoinRow, standIns := [], harness := (true, "eec8dd77d271f4d87febe67ded3a8ccba381ac9024ede6657da5db07626e1355"), looks := false }, kinds := [], alts := [], laidByText := true, laidKinds := [.data], laidTests := true, laidLooks := .later }
def PairsJoinCardSaid : Prop := Claim7.holds Tryd.pinned (.plain (OpenSpec.ofChange pairsJoinSpec)) pairsJoinCard

/-- THE TIED CARD OF 'probecardlaw02.PairsOrder'. -/
def pairsOrderCard : Claim7 := { stood := { row := pairsOrderRow, standIns := [], harness := (true, "eec8dd77d271f4d87febe67ded3a8ccba381ac9024ede6657da5db07626e1355"), looks := false }, kinds := [], alts := [], laidByText := true, laidKinds := [.data], laidTests := true, laidLooks := .later }
def PairsOrderCardSaid : Prop := Claim7.holds Tryd.pinned (.plain (OpenSpec.ofChange pairsOrderSpec)) pairsOrderCard

/-- THE TIED CARD OF 'probecardlaw02.PairsDiffer'. -/
def pairsDifferCard : Claim7 := { stood := { row := pairsDifferRow, standIns := [], harness := (true, "eec8dd77d271f4d87febe67ded3a8ccba381ac9024ede6657da5db07626e1355"), looks := false }, kinds := [], alts := [], laidByText := true, laidKinds := [.data], laidTests := true, laidLooks := .later }
def PairsDifferCardSaid : Prop := Claim7.holds Tryd.pinned (.plain (OpenSpec.ofChange pairsDifferSpec)) pairsDifferCard

/-- THE SECOND FORM's CARD OF 'probecardlaw01.LogicOrder'. -/
def logicOrderUptoCard : Claim7 := { stood := { row := logicOrderUptoRow, standIns := [], harness := (true, "eec8dd77d271f4d87febe67ded3a8ccba381ac9024ede6657da5db07626e1355"), looks := false }, kinds := [], alts := [], laidByText := true, laidKinds := [.data], laidTests := true, laidLooks := .later }
def LogicOrderUptoCardSaid : Prop := Claim7.holds Tryd.pinned (.plain (OpenSpec.upto logicOrderSpec)) logicOrderUptoCard

/-- THE SECOND FORM's CARD OF 'probecardlaw02.PairsEval'. -/
def pairsEvalUptoCard : Claim7 := { stood := { row := pairsEvalUptoRow, standIns := [], harness := (true, "eec8dd77d271f4d87febe67ded3a8ccba381ac9024ede6657da5db07626e1355"), looks := false }, kinds := [], alts := [], laidByText := true, laidKinds := [.data], laidTests := true, laidLooks := .later }
def PairsEvalUptoCardSaid : Prop := Claim7.holds Tryd.pinned (.plain (OpenSpec.upto pairsEvalSpec)) pairsEvalUptoCard

/-- THE SECOND FORM's CARD OF 'probecardlaw02.PairsTexts'. -/
def pairsTextsUptoCard : Claim7 := { stood := { row := pairsTextsUptoRow, standIns := [], harness := (true, "eec8dd77d271f4d87febe67ded3a8ccba381ac9024ede6657da5db07626e1355"), looks := false }, kinds := [], alts := [], laidByText := true, laidKinds := [.data], laidTests := true, laidLooks := .later }
def PairsTextsUptoCardSaid : Prop := Claim7.holds Tryd.pinned (.plain (OpenSpec.upto pairsTextsSpec)) pairsTextsUptoCard

/-- THE SECOND FORM's CARD OF 'probecardlaw02.PairsFive'. -/
def pairsFiveUptoCard : Claim7 := { stood := { row := pairsFiveUptoRow, standIns := [], harness := (true, "eec8dd77d271f4d87febe67ded3a8ccba381ac9024ede6657da5db07626e1355"), looks := false }, kinds := [], alts := [], laidByText := true, laidKinds := [.data], laidTests := true, laidLooks := .later }
def PairsFiveUptoCardSaid : Prop := Claim7.holds Tryd.pinned (.plain (OpenSpec.upto pairsFiveSpec)) pairsFiveUptoCard

/-- THE SECOND FORM's CARD OF 'probecardlaw02.PairsMonotone'. -/
def pairsMonotoneUptoCard : Claim7 := { stood := { row := pairsMonotoneUptoRow, standIns := [], harness := (true, "eec8dd77d271f4d87febe67ded3a8ccba381ac9024ede6657da5db07626e1355"), looks := false }, kinds := [], alts := [], laidByText := true, laidKinds := [.data], laidTests := true, laidLooks := .later }
def PairsMonotoneUptoCardSaid : Prop := Claim7.holds Tryd.pinned (.plain (OpenSpec.upto pairsMonotoneSpec)) pairsMonotoneUptoCard

/-- THE SECOND FORM's CARD OF 'probecardlaw02.PairsJoin'. -/
def pairsJoinUptoCard : Claim7 := { stood := { row := pairsJoinUptoRow, standIns := [], harness := (true, "eec8dd77d271f4d87febe67ded3a8ccba381ac9024ede6657da5db07626e1355"), looks := false }, kinds := [], alts := [], laidByText := true, laidKinds := [.data], laidTests := true, laidLooks := .later }
def PairsJoinUptoCardSaid : Prop := Claim7.holds Tryd.pinned (.plain (OpenSpec.upto pairsJoinSpec)) pairsJoinUptoCard

/-- THE SECOND FORM's CARD OF 'probecardlaw02.PairsOrder'. -/
def pairsOrderUptoCard : Claim7 := { stood := { row := pairsOrderUptoRow, standIns := [], harness := (true, "eec8dd77d271f4d87febe67ded3a8ccba381ac9024ede6657da5db07626e1355"), looks := false }, kinds := [], alts := [], laidByText := true, laidKinds := [.data], laidTests := true, laidLooks := .later }
def PairsOrderUptoCardSaid : Prop := Claim7.holds Tryd.pinned (.plain (OpenSpec.upto pairsOrderSpec)) pairsOrderUptoCard

/-- THE SECOND FORM's CARD OF 'probecardlaw02.PairsDiffer'. -/
def pairsDifferUptoCard : Claim7 := { stood := { row := pairsDifferUptoRow, standIns := [], harness := (true, "eec8dd77d271f4d87febe67ded3a8ccba381ac9024ede6657da5db07626e1355"), looks := false }, kinds := [], alts := [], laidByText := true, laidKinds := [.data], laidTests := true, laidLooks := .later }
def PairsDifferUptoCardSaid : Prop := Claim7.holds Tryd.pinned (.plain (OpenSpec.upto pairsDifferSpec)) pairsDifferUptoCard
end Rows
end Go.Proofs.YtbfgncmnallhlaaDoor
