/-
  DERIVED. GIVEN WITH THE SEED: THE CARDS: each row of YteceaohcjmbfbaaGreatDoorRows.lean that lists a variable, with what it lists TIED to the program's text (the seventh form; the later family's looks); each row that meets fmt, with fmt's text TOLD by the authors' own Lean function (tested against real Go, not proved from fmt's source: count such statements apart). THE CARD IS WHAT COUNTS. Prove the row's statement (the work); the ties are given (YteceaohcjmbfbaaGreatDoorTie.lean); close each card by the builder's one call (the guide's Derived/Test/ToyasCard.lean, 'card_holds'). Laid BY PROGRAM, IN A SANDBOX (cutbox-door.mjs). By AI agents, Wed Nov 11 2026. No macro, syntax, notation, axiom, sorry.
-/
import Derived.Test.YteceaohcjmbfbaaGreatDoorRows
import GoSem.ClaimSeven
namespace Go.Proofs.YteceaohcjmbfbaaGreatDoor
namespace Rows

/-- THE TIED CARD OF 'probecardlaw22.SuspectsRank'. -/
def suspectsRankCard : Claim7 := { stood := { row := suspectsRankRow, standIns := [], harness := (true, "11e59f63df3497a80e5602ea6326c1cf75cc26c0e84ede4583d5dfb243fadef1"), looks := false }, kinds := [], alts := [], laidByText := true, laidKinds := [.data], laidTests := true, laidLooks := .later }
def SuspectsRankCardSaid : Prop := Claim7.holds Tryz.pinned (.plain (OpenSpec.ofChange suspectsRankSpec)) suspectsRankCard

/-- THE TIED CARD OF 'probecardlaw22.SuspectsExact'. -/
def suspectsExactCard : Claim7 := { stood := { row := suspectsExactRow, standIns := [], harness := (true, "11e59f63df3497a80e5602ea6326c1cf75cc26c0e84ede4583d5dfb243fadef1"), looks := false }, kinds := [], alts := [], laidByText := true, laidKinds := [.data], laidTests := true, laidLooks := .later }
def SuspectsExactCardSaid : Prop := Claim7.holds Tryz.pinned (.plain (OpenSpec.ofChange suspectsExactSpec)) suspectsExactCard

/-- THE TIED CARD OF 'probecardlaw22.SuspectsLog'. -/
def suspectsLogCard : Claim7 := { stood := { row := suspectsLogRow, standIns := [], harness := (true, "11e59f63df3497a80e5602ea6326c1cf75cc26c0e84ede4583d5dfb243fadef1"), looks := false }, kinds := [], alts := [], laidByText := true, laidKinds := [.data], laidTests := true, laidLooks := .later }
def SuspectsLogCardSaid : Prop := Claim7.holds Tryz.pinned (.plain (OpenSpec.ofChange suspectsLogSpec)) suspectsLogCard

/-- THE TIED CARD OF 'probecardlaw22.SuspectsTrue'. -/
def suspectsTrueCard : Claim7 := { stood := { row := suspectsTrueRow, standIns := [], harness := (true, "11e59f63df3497a80e5602ea6326c1cf75cc26c0e84ede4583d5dfb243fadef1"), looks := false }, kinds := [], alts := [], laidByText := true, laidKinds := [.data], laidTests := true, laidLooks := .later }
def SuspectsTrueCardSaid : Prop := Claim7.holds Tryz.pinned (.plain (OpenSpec.ofChange suspectsTrueSpec)) suspectsTrueCard

/-- THE TIED CARD OF 'probecardlaw22.SuspectsBack'. -/
def suspectsBackCard : Claim7 := { stood := { row := suspectsBackRow, standIns := [], harness := (true, "11e59f63df3497a80e5602ea6326c1cf75cc26c0e84ede4583d5dfb243fadef1"), looks := false }, kinds := [], alts := [], laidByText := true, laidKinds := [.data], laidTests := true, laidLooks := .later }
def SuspectsBackCardSaid : Prop := Claim7.holds Tryz.pinned (.plain (OpenSpec.ofChange suspectsBackSpec)) suspectsBackCard

/-- THE SECOND FORM's CARD OF 'probecardlaw22.SuspectsRank'. -/
def suspectsRankUptoCard : Claim7 := { stood := { row := suspectsRankUptoRow, standIns := [], harness := (true, "11e59f63df3497a80e5602ea6326c1cf75cc26c0e84ede4583d5dfb243fadef1"), looks := false }, kinds := [], alts := [], laidByText := true, laidKinds := [.data], laidTests := true, laidLooks := .later }
def SuspectsRankUptoCardSaid : Prop := Claim7.holds Tryz.pinned (.plain (OpenSpec.upto suspectsRankSpec)) suspectsRankUptoCard

/-- THE SECOND FORM's CARD OF 'probecardlaw22.SuspectsExact'. -/
def suspectsExactUptoCard : Claim7 := { stood := { row := suspectsExactUptoRow, standIns := [], harness := (true, "11e59f63df3497a80e5602ea6326c1cf75cc26c0e84ede4583d5dfb243fadef1"), looks := false }, kinds := [], alts := [], laidByText := true, laidKinds := [.data], laidTests := true, laidLooks := .later }
def SuspectsExactUptoCardSaid : Prop := Claim7.holds Tryz.pinned (.plain (OpenSpec.upto suspectsExactSpec)) suspectsExactUptoCard

/-- THE SECOND FORM's CARD OF 'probecardlaw22.SuspectsLog'. -/
def suspectsLogUptoCard : Claim7 := { stood := { row := suspectsLogUptoRow, standIns := [], harness := (true, "11e59f63df3497a80e5602ea6326c1cf75cc26c0e84ede4583d5dfb243fadef1"), looks := false }, kinds := [], alts := [], laidByText := true, laidKinds := [.data], laidTests := true, laidLooks := .later }
def SuspectsLogUptoCardSaid : Prop := Claim7.holds Tryz.pinned (.plain (OpenSpec.upto suspectsLogSpec)) suspectsLogUptoCard

/-- THE SECOND FORM's CARD OF 'probecardlaw22.SuspectsTrue'. -/
def suspectsTrueUptoCard : Claim7 := { stood := { row := suspectsTrueUptoRow, standIns := [], harness := (true, "11e59f63df3497a80e5602ea6326c1cf75cc26c0e84ede4583d5dfb243fadef1"), looks := false }, kinds := [], alts := [], laidByText := true, laidKinds := [.data], laidTests := true, laidLooks := .later }
def SuspectsTrueUptoCardSaid : Prop := Claim7.holds Tryz.pinned (.plain (OpenSpec.upto suspectsTrueSpec)) suspectsTrueUptoCard

/-- THE SECOND FORM's CARD OF 'probecardlaw22.SuspectsBack'. -/
def suspectsBackUptoCard : Claim7 := { stood := { row := suspectsBackUptoRow, standIns := [], harness := (true, "11e59f63df3497a80e5602ea6326c1cf75cc26c0e84ede4583d5dfb243fadef1"), looks := false }, kinds := [], alts := [], laidByText := true, laidKinds := [.data], laidTests := true, laidLooks := .later }
def SuspectsBackUptoCardSaid : Prop := Claim7.holds Tryz.pinned (.plain (OpenSpec.upto suspectsBackSpec)) suspectsBackUptoCard
end Rows
end Go.Proofs.YteceaohcjmbfbaaGreatDoor
