/-
  DERIVED. GIVEN WITH THE SEED: THE CARDS: each row of YteanlacbmiiloaaGreatDoorRows.lean that lists a variable, with what it lists TIED to the program's text (the seventh form; the later family's looks); each row that meets fmt, with fmt's text TOLD by the authors' own Lean function (tested against real Go, not proved from fmt's source: count such statements apart). THE CARD IS WHAT COUNTS. Prove the row's statement (the work); the ties are given (YteanlacbmiiloaaGreatDoorTie.lean); close each card by the builder's one call (the guide's Derived/Test/ToyasCard.lean, 'card_holds'). Laid BY PROGRAM, IN A SANDBOX (cutbox-door.mjs). By AI agents, Wed Nov 11 2026. No macro, syntax, notation, axiom, sorry.
-/
import Derived.Test.YteanlacbmiiloaaGreatDoorRows
import GoSem.ClaimSeven
namespace Go.Proofs.YteanlacbmiiloaaGreatDoor
namespace Rows

/-- THE TIED CARD OF 'probecardlaw24.ImpliesCloses'. -/
def impliesClosesCard : Claim7 := { stood := { row := impliesClosesRow, standIns := [], harness := (true, "bd55b5d43cd1de400904fbed298db0441f01846f7296209075a46989b1f5058f"), looks := false }, kinds := [], alts := [], laidByText := true, laidKinds := [.data], laidTests := true, laidLooks := .later }
def ImpliesClosesCardSaid : Prop := Claim7.holds Tryz.pinned (.plain (OpenSpec.ofChange impliesClosesSpec)) impliesClosesCard

/-- THE TIED CARD OF 'probecardlaw25.LearnsStatic'. -/
def learnsStaticCard : Claim7 := { stood := { row := learnsStaticRow, standIns := [], harness := (true, "bd55b5d43cd1de400904fbed298db0441f01846f7296209075a46989b1f5058f"), looks := false }, kinds := [], alts := [], laidByText := true, laidKinds := [.data], laidTests := true, laidLooks := .later }
def LearnsStaticCardSaid : Prop := Claim7.holds Tryz.pinned (.plain (OpenSpec.ofChange learnsStaticSpec)) learnsStaticCard

/-- THE TIED CARD OF 'probecardlaw25.LearnsSaturates'. -/
def learnsSaturatesCard : Claim7 := { stood := { row := learnsSaturatesRow, standIns := [], harness := (true, "bd55b5d43cd1de400904fbed298db0441f01846f7296209075a46989b1f5058f"), looks := false }, kinds := [], alts := [], laidByText := true, laidKinds := [.data], laidTests := true, laidLooks := .later }
def LearnsSaturatesCardSaid : Prop := Claim7.holds Tryz.pinned (.plain (OpenSpec.ofChange learnsSaturatesSpec)) learnsSaturatesCard

/-- THE TIED CARD OF 'probecardlaw25.LearnsCloses'. -/
def learnsClosesCard : Claim7 := { stood := { row := learnsClosesRow, standIns := [], harness := (true, "bd55b5d43cd1de400904fbed298db0441f01846f7296209075a46989b1f5058f"), looks := false }, kinds := [], alts := [], laidByText := true, laidKinds := [.data], laidTests := true, laidLooks := .later }
def LearnsClosesCardSaid : Prop := Claim7.holds Tryz.pinned (.plain (OpenSpec.ofChange learnsClosesSpec)) learnsClosesCard

/-- THE TIED CARD OF 'probecardlaw25.LearnsKnown'. -/
def learnsKnownCard : Claim7 := { stood := { row := learnsKnownRow, standIns := [], harness := (true, "bd55b5d43cd1de400904fbed298db0441f01846f7296209075a46989b1f5058f"), looks := false }, kinds := [], alts := [], laidByText := true, laidKinds := [.data], laidTests := true, laidLooks := .later }
def LearnsKnownCardSaid : Prop := Claim7.holds Tryz.pinned (.plain (OpenSpec.ofChange learnsKnownSpec)) learnsKnownCard

/-- THE TIED CARD OF 'probecardlaw25.LearnsErrors'. -/
def learnsErrorsCard : Claim7 := { stood := { row := learnsErrorsRow, standIns := [], harness := (true, "bd55b5d43cd1de400904fbed298db0441f01846f7296209075a46989b1f5058f"), looks := false }, kinds := [], alts := [], laidByText := true, laidKinds := [.data], laidTests := true, laidLooks := .later }
def LearnsErrorsCardSaid : Prop := Claim7.holds Tryz.pinned (.plain (OpenSpec.ofChange learnsErrorsSpec)) learnsErrorsCard

/-- THE TIED CARD OF 'probecardlaw25.LearnsSound'. -/
def learnsSoundCard : Claim7 := { stood := { row := learnsSoundRow, standIns := [], harness := (true, "bd55b5d43cd1de400904fbed298db0441f01846f7296209075a46989b1f5058f"), looks := false }, kinds := [], alts := [], laidByText := true, laidKinds := [.data], laidTests := true, laidLooks := .later }
def LearnsSoundCardSaid : Prop := Claim7.holds Tryz.pinned (.plain (OpenSpec.ofChange learnsSoundSpec)) learnsSoundCard

/-- THE TIED CARD OF 'probecardlaw25.LearnsComplete'. -/
def learnsCompleteCard : Claim7 := { stood := { row := learnsCompleteRow, standIns := [], harness := (true, "bd55b5d43cd1de400904fbed298db0441f01846f7296209075a46989b1f5058f"), looks := false }, kinds := [], alts := [], laidByText := true, laidKinds := [.data], laidTests := true, laidLooks := .later }
def LearnsCompleteCardSaid : Prop := Claim7.holds Tryz.pinned (.plain (OpenSpec.ofChange learnsCompleteSpec)) learnsCompleteCard

/-- THE SECOND FORM's CARD OF 'probecardlaw24.ImpliesCloses'. -/
def impliesClosesUptoCard : Claim7 := { stood := { row := impliesClosesUptoRow, standIns := [], harness := (true, "bd55b5d43cd1de400904fbed298db0441f01846f7296209075a46989b1f5058f"), looks := false }, kinds := [], alts := [], laidByText := true, laidKinds := [.data], laidTests := true, laidLooks := .later }
def ImpliesClosesUptoCardSaid : Prop := Claim7.holds Tryz.pinned (.plain (OpenSpec.upto impliesClosesSpec)) impliesClosesUptoCard

/-- THE SECOND FORM's CARD OF 'probecardlaw25.LearnsStatic'. -/
def learnsStaticUptoCard : Claim7 := { stood := { row := learnsStaticUptoRow, standIns := [], harness := (true, "bd55b5d43cd1de400904fbed298db0441f01846f7296209075a46989b1f5058f"), looks := false }, kinds := [], alts := [], laidByText := true, laidKinds := [.data], laidTests := true, laidLooks := .later }
def LearnsStaticUptoCardSaid : Prop := Claim7.holds Tryz.pinned (.plain (OpenSpec.upto learnsStaticSpec)) learnsStaticUptoCard

/-- THE SECOND FORM's CARD OF 'probecardlaw25.LearnsSaturates'. -/
def learnsSaturatesUptoCard : Claim7 := { stood := { row := learnsSaturatesUptoRow, standIns := [], harness := (true, "bd55b5d43cd1de400904fbed298db0441f01846f7296209075a46989b1f5058f"), looks := false }, kinds := [], alts := [], laidByText := true, laidKinds := [.data], laidTests := true, laidLooks := .later }
def LearnsSaturatesUptoCardSaid : Prop := Claim7.holds Tryz.pinned (.plain (OpenSpec.upto learnsSaturatesSpec)) learnsSaturatesUptoCard

/-- THE SECOND FORM's CARD OF 'probecardlaw25.LearnsCloses'. -/
def learnsClosesUptoCard : Claim7 := { stood := { row := learnsClosesUptoRow, standIns := [], harness := (true, "bd55b5d43cd1de400904fbed298db0441f01846f7296209075a46989b1f5058f"), looks := false }, kinds := [], alts := [], laidByText := true, laidKinds := [.data], laidTests := true, laidLooks := .later }
def LearnsClosesUptoCardSaid : Prop := Claim7.holds Tryz.pinned (.plain (OpenSpec.upto learnsClosesSpec)) learnsClosesUptoCard

/-- THE SECOND FORM's CARD OF 'probecardlaw25.LearnsKnown'. -/
def learnsKnownUptoCard : Claim7 := { stood := { row := learnsKnownUptoRow, standIns := [], harness := (true, "bd55b5d43cd1de400904fbed298db0441f01846f7296209075a46989b1f5058f"), looks := false }, kinds := [], alts := [], laidByText := true, laidKinds := [.data], laidTests := true, laidLooks := .later }
def LearnsKnownUptoCardSaid : Prop := Claim7.holds Tryz.pinned (.plain (OpenSpec.upto learnsKnownSpec)) learnsKnownUptoCard

/-- THE SECOND FORM's CARD OF 'probecardlaw25.LearnsErrors'. -/
def learnsErrorsUptoCard : Claim7 := { stood := { row := learnsErrorsUptoRow, standIns := [], harness := (true, "bd55b5d43cd1de400904fbed298db0441f01846f7296209075a46989b1f5058f"), looks := false }, kinds := [], alts := [], laidByText := true, laidKinds := [.data], laidTests := true, laidLooks := .later }
def LearnsErrorsUptoCardSaid : Prop := Claim7.holds Tryz.pinned (.plain (OpenSpec.upto learnsErrorsSpec)) learnsErrorsUptoCard

/-- THE SECOND FORM's CARD OF 'probecardlaw25.LearnsSound'. -/
def learnsSoundUptoCard : Claim7 := { stood := { row := learnsSoundUptoRow, standIns := [], harness := (true, "bd55b5d43cd1de400904fbed298db0441f01846f7296209075a46989b1f5058f"), looks := false }, kinds := [], alts := [], laidByText := true, laidKinds := [.data], laidTests := true, laidLooks := .later }
def LearnsSoundUptoCardSaid : Prop := Claim7.holds Tryz.pinned (.plain (OpenSpec.upto learnsSoundSpec)) learnsSoundUptoCard

/-- THE SECOND FORM's CARD OF 'probecardlaw25.LearnsComplete'. -/
def learnsCompleteUptoCard : Claim7 := { stood := { row := learnsCompleteUptoRow, standIns := [], harness := (true, "bd55b5d43cd1de400904fbed298db0441f01846f7296209075a46989b1f5058f"), looks := false }, kinds := [], alts := [], laidByText := true, laidKinds := [.data], laidTests := true, laidLooks := .later }
def LearnsCompleteUptoCardSaid : Prop := Claim7.holds Tryz.pinned (.plain (OpenSpec.upto learnsCompleteSpec)) learnsCompleteUptoCard
end Rows
end Go.Proofs.YteanlacbmiiloaaGreatDoor
