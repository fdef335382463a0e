/-
  DERIVED. GIVEN WITH THE SEED: THE CARDS: each row of YtmhbhclfojmjdaaGreatDoorRows.lean that lists a variable, with what it lists TIED to the program's text (the seventh form; the later family's looks); each row that meets fmt, with fmt's text TOLD by the authors' own Lean function (tested against real Go, not proved from fmt's source: count such statements apart). THE CARD IS WHAT COUNTS. Prove the row's statement (the work); the ties are given (YtmhbhclfojmjdaaGreatDoorTie.lean); close each card by the builder's one call (the guide's Derived/Test/ToyasCard.lean, 'card_holds'). Laid BY PROGRAM, IN A SANDBOX (cutbox-door.mjs). By AI agents, Wed Nov 11 2026. No macro, syntax, notation, axiom, sorry.
-/
import Derived.Test.YtmhbhclfojmjdaaGreatDoorRows
import GoSem.ClaimSeven
namespace Go.Proofs.YtmhbhclfojmjdaaGreatDoor
namespace Rows

/-- THE TIED CARD OF 'probecardlaw17.TracesCritical'. -/
def tracesCriticalCard : Claim7 := { stood := { row := tracesCriticalRow, standIns := [], harness := (true, "aa86e69c7179e377005e4043d2b0d2688cd9df462eac80e1753cba7a177585ef"), looks := false }, kinds := [], alts := [], laidByText := true, laidKinds := [.data], laidTests := true, laidLooks := .later }
def TracesCriticalCardSaid : Prop := Claim7.holds Tryz.pinned (.plain (OpenSpec.ofChange tracesCriticalSpec)) tracesCriticalCard

/-- THE TIED CARD OF 'probecardlaw17.TracesRules'. -/
def tracesRulesCard : Claim7 := { stood := { row := tracesRulesRow, standIns := [], harness := (true, "aa86e69c7179e377005e4043d2b0d2688cd9df462eac80e1753cba7a177585ef"), looks := false }, kinds := [], alts := [], laidByText := true, laidKinds := [.data], laidTests := true, laidLooks := .later }
def TracesRulesCardSaid : Prop := Claim7.holds Tryz.pinned (.plain (OpenSpec.ofChange tracesRulesSpec)) tracesRulesCard

/-- THE TIED CARD OF 'probecardlaw17.TracesStems'. -/
def tracesStemsCard : Claim7 := { stood := { row := tracesStemsRow, standIns := [], harness := (true, "aa86e69c7179e377005e4043d2b0d2688cd9df462eac80e1753cba7a177585ef"), looks := false }, kinds := [], alts := [], laidByText := true, laidKinds := [.data], laidTests := true, laidLooks := .later }
def TracesStemsCardSaid : Prop := Claim7.holds Tryz.pinned (.plain (OpenSpec.ofChange tracesStemsSpec)) tracesStemsCard

/-- THE TIED CARD OF 'probecardlaw17.TracesWalk'. -/
def tracesWalkCard : Claim7 := { stood := { row := tracesWalkRow, standIns := [], harness := (true, "aa86e69c7179e377005e4043d2b0d2688cd9df462eac80e1753cba7a177585ef"), looks := false }, kinds := [], alts := [], laidByText := true, laidKinds := [.data], laidTests := true, laidLooks := .later }
def TracesWalkCardSaid : Prop := Claim7.holds Tryz.pinned (.plain (OpenSpec.ofChange tracesWalkSpec)) tracesWalkCard

/-- THE TIED CARD OF 'probecardlaw17.TracesDetected'. -/
def tracesDetectedCard : Claim7 := { stood := { row := tracesDetectedRow, standIns := [], harness := (true, "aa86e69c7179e377005e4043d2b0d2688cd9df462eac80e1753cba7a177585ef"), looks := false }, kinds := [], alts := [], laidByText := true, laidKinds := [.data], laidTests := true, laidLooks := .later }
def TracesDetectedCardSaid : Prop := Claim7.holds Tryz.pinned (.plain (OpenSpec.ofChange tracesDetectedSpec)) tracesDetectedCard

/-- THE SECOND FORM's CARD OF 'probecardlaw17.TracesCritical'. -/
def tracesCriticalUptoCard : Claim7 := { stood := { row := tracesCriticalUptoRow, standIns := [], harness := (true, "aa86e69c7179e377005e4043d2b0d2688cd9df462eac80e1753cba7a177585ef"), looks := false }, kinds := [], alts := [], laidByText := true, laidKinds := [.data], laidTests := true, laidLooks := .later }
def TracesCriticalUptoCardSaid : Prop := Claim7.holds Tryz.pinned (.plain (OpenSpec.upto tracesCriticalSpec)) tracesCriticalUptoCard

/-- THE SECOND FORM's CARD OF 'probecardlaw17.TracesRules'. -/
def tracesRulesUptoCard : Claim7 := { stood := { row := tracesRulesUptoRow, standIns := [], harness := (true, "aa86e69c7179e377005e4043d2b0d2688cd9df462eac80e1753cba7a177585ef"), looks := false }, kinds := [], alts := [], laidByText := true, laidKinds := [.data], laidTests := true, laidLooks := .later }
def TracesRulesUptoCardSaid : Prop := Claim7.holds Tryz.pinned (.plain (OpenSpec.upto tracesRulesSpec)) tracesRulesUptoCard

/-- THE SECOND FORM's CARD OF 'probecardlaw17.TracesStems'. -/
def tracesStemsUptoCard : Claim7 := { stood := { row := tracesStemsUptoRow, standIns := [], harness := (true, "aa86e69c7179e377005e4043d2b0d2688cd9df462eac80e1753cba7a177585ef"), looks := false }, kinds := [], alts := [], laidByText := true, laidKinds := [.data], laidTests := true, laidLooks := .later }
def TracesStemsUptoCardSaid : Prop := Claim7.holds Tryz.pinned (.plain (OpenSpec.upto tracesStemsSpec)) tracesStemsUptoCard

/-- THE SECOND FORM's CARD OF 'probecardlaw17.TracesWalk'. -/
def tracesWalkUptoCard : Claim7 := { stood := { row := tracesWalkUptoRow, standIns := [], harness := (true, "aa86e69c7179e377005e4043d2b0d2688cd9df462eac80e1753cba7a177585ef"), looks := false }, kinds := [], alts := [], laidByText := true, laidKinds := [.data], laidTests := true, laidLooks := .later }
def TracesWalkUptoCardSaid : Prop := Claim7.holds Tryz.pinned (.plain (OpenSpec.upto tracesWalkSpec)) tracesWalkUptoCard

/-- THE SECOND FORM's CARD OF 'probecardlaw17.TracesDetected'. -/
def tracesDetectedUptoCard : Claim7 := { stood := { row := tracesDetectedUptoRow, standIns := [], harness := (true, "aa86e69c7179e377005e4043d2b0d2688cd9df462eac80e1753cba7a177585ef"), looks := false }, kinds := [], alts := [], laidByText := true, laidKinds := [.data], laidTests := true, laidLooks := .later }
def TracesDetectedUptoCardSaid : Prop := Claim7.holds Tryz.pinned (.plain (OpenSpec.upto tracesDetectedSpec)) tracesDetectedUptoCard
end Rows
end Go.Proofs.YtmhbhclfojmjdaaGreatDoor
