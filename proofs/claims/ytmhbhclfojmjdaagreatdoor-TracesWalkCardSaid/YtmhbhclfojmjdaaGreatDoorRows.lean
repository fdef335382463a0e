/-
  NARROWER THAN 'FOR EVERY INPUT', by the rows' own cells (each row's printed sentence says how): TracesCritical: laid · TracesRules: laid · TracesStems: laid · TracesWalk: laid · TracesDetected: laid.
  DERIVED. THE GIVEN ROWS OF THIS SEAT. 5 by the template 'for every input the law returns true; each argument reads behind the call as it read before'; 0 by the template 'total and deterministic' (their statements: YtmhbhclfojmjdaaGreatDoorTotals.lean).
  GIVEN WITH THE SEED: the statements are not yours to turn. If you find one false, say at which input.
  Laid BY PROGRAM, IN A SANDBOX (cutbox-rows.mjs): the forced cells as the released guide's own fill.sh prints them over the translation 214c2b7832283ae6… (all of the seat's roots in one cut). By AI agents, Wed Nov 11 2026. No macro, syntax, notation, axiom, sorry.
-/
import Derived.Test.YtmhbhclfojmjdaaGreatDoorChecked
import GoSem.Claim
import GoSem.ClaimJoined
import GoSem.ClaimMapViews
import Derived.JoinedTies
import Derived.KernelRfl
namespace Go.Proofs.YtmhbhclfojmjdaaGreatDoor
/- THE CELL 'sum', in the pinned program and in every row, IS THE sha256 OF THE DUMP (.gsa) THAT YtmhbhclfojmjdaaGreatDoorProg.lean LOADS. Nothing in Lean hashes anything: it is a label: what it is worth is what the hold of that sum in a sandbox is worth. -/
noncomputable def Tryz.pinned : Pinned := { name := "ytmhbhclfojmjdaagreatdoor", sum := "214c2b7832283ae6bbd33f2e13553be54a8858907c5b5ef6619780cba22f3465", checked := Tryz.checked }
namespace Rows
def none {H : Type} : Left H := { results := [], args := [] }

/- WHAT THE LISTED PACKAGE-LEVEL VARIABLES READ AS WHEN THE CALL BEGINS. Each datum BY PROGRAM (the guide's laid-datum.mjs) off the statement by which the dump's own 'gosem.cut.vars' lays the variable. In a bare row this is a premise. The card (YtmhbhclfojmjdaaGreatDoorCards.lean) ties it to the program's text. -/
def laid_probecard_logic_fanins {H : Type} : DataW H := .agg [.agg [.lit (.int .i64 0), .lit (.int .i64 0)], .agg [.lit (.int .i64 0), .lit (.int .i64 0)], .agg [.lit (.int .i64 0), .lit (.int .i64 0)], .agg [.lit (.int .i64 1), .lit (.int .i64 1)], .agg [.lit (.int .i64 1), .lit (.int .i64 1)], .agg [.lit (.int .i64 2), .lit (.int .i64 16)], .agg [.lit (.int .i64 2), .lit (.int .i64 16)], .agg [.lit (.int .i64 2), .lit (.int .i64 16)], .agg [.lit (.int .i64 2), .lit (.int .i64 16)], .agg [.lit (.int .i64 2), .lit (.int .i64 16)], .agg [.lit (.int .i64 2), .lit (.int .i64 16)], .agg [.lit (.int .i64 3), .lit (.int .i64 3)], .agg [.lit (.int .i64 2), .lit (.int .i64 2)], .agg [.lit (.int .i64 1), .lit (.int .i64 16)], .agg [.lit (.int .i64 1), .lit (.int .i64 1)], .agg [.lit (.int .i64 0), .lit (.int .i64 0)]]

/-- 'probecardlaw17.TracesCritical': WHATEVER THE INPUT: true; the input reads as it did. -/
def tracesCriticalSpec : ChangeSpec := { name := "tracesCritical", fn := fun _ => fun
  | [d1, d2] => { results := [.lit (.bool true)], args := [d1, d2] }
  | _ => none }
def tracesCriticalRow : OpenClaim := { program := "ytmhbhclfojmjdaagreatdoor", sum := "214c2b7832283ae6bbd33f2e13553be54a8858907c5b5ef6619780cba22f3465", func := "probecard/probecardlaw17.TracesCritical", spec := "tracesCritical", inPlace := ["internal/bytealg.IndexByteString", "internal/bytealg.IndexString"], unfollowed := true, recurses := true, named := ["probecard/logic.fanins", "internal/bytealg.MaxLen"], plainKeys := false, apart := false, laid := [("probecard/logic.fanins", laid_probecard_logic_fanins)] }
def TracesCriticalSaid : Prop := tracesCriticalRow.holds Tryz.pinned (OpenSpec.ofChange tracesCriticalSpec)

/-- ITS FALSE NEIGHBOUR: 'it returns false'. Refute it at one input. -/
def tracesCriticalWrong : ChangeSpec := { name := "tracesCritical", fn := fun _ => fun
  | [d1, d2] => { results := [.lit (.bool false)], args := [d1, d2] }
  | _ => none }
def TracesCriticalWrongFalsely : Prop := tracesCriticalRow.holds Tryz.pinned (OpenSpec.ofChange tracesCriticalWrong)

/-- 'probecardlaw17.TracesRules': WHATEVER THE INPUT: true; the input reads as it did. -/
def tracesRulesSpec : ChangeSpec := { name := "tracesRules", fn := fun _ => fun
  | [d1, d2] => { results := [.lit (.bool true)], args := [d1, d2] }
  | _ => none }
def tracesRulesRow : OpenClaim := { program := "ytmhbhclfojmjdaagreatdoor", sum := "214c2b7832283ae6bbd33f2e13553be54a8858907c5b5ef6619780cba22f3465", func := "probecard/probecardlaw17.TracesRules", spec := "tracesRules", inPlace := ["internal/bytealg.IndexByteString", "internal/bytealg.IndexString"], unfollowed := true, recurses := true, named := ["probecard/logic.fanins", "internal/bytealg.MaxLen"], plainKeys := false, apart := false, laid := [("probecard/logic.fanins", laid_probecard_logic_fanins)] }
def TracesRulesSaid : Prop := tracesRulesRow.holds Tryz.pinned (OpenSpec.ofChange tracesRulesSpec)

/-- ITS FALSE NEIGHBOUR: 'it returns false'. Refute it at one input. -/
def tracesRulesWrong : ChangeSpec := { name := "tracesRules", fn := fun _ => fun
  | [d1, d2] => { results := [.lit (.bool false)], args := [d1, d2] }
  | _ => none }
def TracesRulesWrongFalsely : Prop := tracesRulesRow.holds Tryz.pinned (OpenSpec.ofChange tracesRulesWrong)

/-- 'probecardlaw17.TracesStems': WHATEVER THE INPUT: true; the input reads as it did. -/
def tracesStemsSpec : ChangeSpec := { name := "tracesStems", fn := fun _ => fun
  | [d] => { results := [.lit (.bool true)], args := [d] }
  | _ => none }
def tracesStemsRow : OpenClaim := { program := "ytmhbhclfojmjdaagreatdoor", sum := "214c2b7832283ae6bbd33f2e13553be54a8858907c5b5ef6619780cba22f3465", func := "probecard/probecardlaw17.TracesStems", spec := "tracesStems", inPlace := ["internal/bytealg.IndexByteString", "internal/bytealg.IndexString"], unfollowed := true, recurses := true, named := ["probecard/logic.fanins", "internal/bytealg.MaxLen"], plainKeys := false, apart := false, laid := [("probecard/logic.fanins", laid_probecard_logic_fanins)] }
def TracesStemsSaid : Prop := tracesStemsRow.holds Tryz.pinned (OpenSpec.ofChange tracesStemsSpec)

/-- ITS FALSE NEIGHBOUR: 'it returns false'. Refute it at one input. -/
def tracesStemsWrong : ChangeSpec := { name := "tracesStems", fn := fun _ => fun
  | [d] => { results := [.lit (.bool false)], args := [d] }
  | _ => none }
def TracesStemsWrongFalsely : Prop := tracesStemsRow.holds Tryz.pinned (OpenSpec.ofChange tracesStemsWrong)

/-- 'probecardlaw17.TracesWalk': WHATEVER THE INPUT: true; the input reads as it did. -/
def tracesWalkSpec : ChangeSpec := { name := "tracesWalk", fn := fun _ => fun
  | [d1, d2, d3] => { results := [.lit (.bool true)], args := [d1, d2, d3] }
  | _ => none }
def tracesWalkRow : OpenClaim := { program := "ytmhbhclfojmjdaagreatdoor", sum := "214c2b7832283ae6bbd33f2e13553be54a8858907c5b5ef6619780cba22f3465", func := "probecard/probecardlaw17.TracesWalk", spec := "tracesWalk", inPlace := ["internal/bytealg.IndexByteString", "internal/bytealg.IndexString"], unfollowed := true, recurses := true, named := ["probecard/logic.fanins", "internal/bytealg.MaxLen"], plainKeys := false, apart := false, laid := [("probecard/logic.fanins", laid_probecard_logic_fanins)] }
def TracesWalkSaid : Prop := tracesWalkRow.holds Tryz.pinned (OpenSpec.ofChange tracesWalkSpec)

/-- ITS FALSE NEIGHBOUR: 'it returns false'. Refute it at one input. -/
def tracesWalkWrong : ChangeSpec := { name := "tracesWalk", fn := fun _ => fun
  | [d1, d2, d3] => { results := [.lit (.bool false)], args := [d1, d2, d3] }
  | _ => none }
def TracesWalkWrongFalsely : Prop := tracesWalkRow.holds Tryz.pinned (OpenSpec.ofChange tracesWalkWrong)

/-- 'probecardlaw17.TracesDetected': WHATEVER THE INPUT: true; the input reads as it did. -/
def tracesDetectedSpec : ChangeSpec := { name := "tracesDetected", fn := fun _ => fun
  | [d1, d2, d3] => { results := [.lit (.bool true)], args := [d1, d2, d3] }
  | _ => none }
def tracesDetectedRow : OpenClaim := { program := "ytmhbhclfojmjdaagreatdoor", sum := "214c2b7832283ae6bbd33f2e13553be54a8858907c5b5ef6619780cba22f3465", func := "probecard/probecardlaw17.TracesDetected", spec := "tracesDetected", inPlace := ["internal/bytealg.IndexByteString", "internal/bytealg.IndexString"], unfollowed := true, recurses := true, named := ["probecard/logic.fanins", "internal/bytealg.MaxLen"], plainKeys := false, apart := false, laid := [("probecard/logic.fanins", laid_probecard_logic_fanins)] }
def TracesDetectedSaid : Prop := tracesDetectedRow.holds Tryz.pinned (OpenSpec.ofChange tracesDetectedSpec)

/-- ITS FALSE NEIGHBOUR: 'it returns false'. Refute it at one input. -/
def tracesDetectedWrong : ChangeSpec := { name := "tracesDetected", fn := fun _ => fun
  | [d1, d2, d3] => { results := [.lit (.bool false)], args := [d1, d2, d3] }
  | _ => none }
def TracesDetectedWrongFalsely : Prop := tracesDetectedRow.holds Tryz.pinned (OpenSpec.ofChange tracesDetectedWrong)

/- THE SECOND FORM. 'bulk': how many values and letters a reading holds, each counted each time it is reached (what is shared counts as often as it is met; a slice's spare places count too). A statement '..UptoSaid' is the law's where the arguments, and the package variables that the reading takes, are together of bulk at most 1048576: NARROWER than '..Said'. Prove '..Said' where nothing that the law and all that it calls make is longer than what came in: it says more and counts as full. Else prove '..UptoSaid'. A law counts once. -/
mutual
def uptoBulk {H : Type} : DataW H → Nat
  | .lit (.string bytes) => bytes.length + 1
  | .lit _ => 1
  | .nil => 1
  | .ptr d => uptoBulk d + 1
  | .slice elems spare => uptoBulkAll elems + uptoBulkAll spare + 1
  | .agg parts => uptoBulkAll parts + 1
  | .iface _ d => uptoBulk d + 1
  | .map entries => uptoBulkEntries entries + 1
  | .held _ => 1
def uptoBulkAll {H : Type} : List (DataW H) → Nat
  | [] => 0
  | d :: r => uptoBulk d + uptoBulkAll r
def uptoBulkEntries {H : Type} : List (Lit × DataW H) → Nat
  | [] => 0
  | x :: r => uptoBulkEntry x + uptoBulkEntries r
def uptoBulkEntry {H : Type} : Lit × DataW H → Nat
  | (.string bytes, d) => bytes.length + uptoBulk d + 1
  | (_, d) => uptoBulk d + 1
 end
def uptoSmall : (H : Type) → List (DataW H) → Bool := fun _ ds => decide (uptoBulkAll ds ≤ 1048576)
def OpenSpec.upto (s : _root_.Go.ChangeSpec) : _root_.Go.OpenSpec := { _root_.Go.OpenSpec.ofChange s with cond := some uptoSmall }

/-- 'probecardlaw17.TracesCritical', WHERE WHAT IT READS IS OF BULK AT MOST 1048576: true; the input reads as it did. -/
def tracesCriticalUptoRow : OpenClaim := { program := "ytmhbhclfojmjdaagreatdoor", sum := "214c2b7832283ae6bbd33f2e13553be54a8858907c5b5ef6619780cba22f3465", func := "probecard/probecardlaw17.TracesCritical", spec := "tracesCritical", inPlace := ["internal/bytealg.IndexByteString", "internal/bytealg.IndexString"], unfollowed := true, recurses := true, named := ["probecard/logic.fanins", "internal/bytealg.MaxLen"], plainKeys := false, apart := false, laid := [("probecard/logic.fanins", laid_probecard_logic_fanins)], narrowed := true }
def TracesCriticalUptoSaid : Prop := tracesCriticalUptoRow.holds Tryz.pinned (OpenSpec.upto tracesCriticalSpec)

/-- 'probecardlaw17.TracesRules', WHERE WHAT IT READS IS OF BULK AT MOST 1048576: true; the input reads as it did. -/
def tracesRulesUptoRow : OpenClaim := { program := "ytmhbhclfojmjdaagreatdoor", sum := "214c2b7832283ae6bbd33f2e13553be54a8858907c5b5ef6619780cba22f3465", func := "probecard/probecardlaw17.TracesRules", spec := "tracesRules", inPlace := ["internal/bytealg.IndexByteString", "internal/bytealg.IndexString"], unfollowed := true, recurses := true, named := ["probecard/logic.fanins", "internal/bytealg.MaxLen"], plainKeys := false, apart := false, laid := [("probecard/logic.fanins", laid_probecard_logic_fanins)], narrowed := true }
def TracesRulesUptoSaid : Prop := tracesRulesUptoRow.holds Tryz.pinned (OpenSpec.upto tracesRulesSpec)

/-- 'probecardlaw17.TracesStems', WHERE WHAT IT READS IS OF BULK AT MOST 1048576: true; the input reads as it did. -/
def tracesStemsUptoRow : OpenClaim := { program := "ytmhbhclfojmjdaagreatdoor", sum := "214c2b7832283ae6bbd33f2e13553be54a8858907c5b5ef6619780cba22f3465", func := "probecard/probecardlaw17.TracesStems", spec := "tracesStems", inPlace := ["internal/bytealg.IndexByteString", "internal/bytealg.IndexString"], unfollowed := true, recurses := true, named := ["probecard/logic.fanins", "internal/bytealg.MaxLen"], plainKeys := false, apart := false, laid := [("probecard/logic.fanins", laid_probecard_logic_fanins)], narrowed := true }
def TracesStemsUptoSaid : Prop := tracesStemsUptoRow.holds Tryz.pinned (OpenSpec.upto tracesStemsSpec)

/-- 'probecardlaw17.TracesWalk', WHERE WHAT IT READS IS OF BULK AT MOST 1048576: true; the input reads as it did. -/
def tracesWalkUptoRow : OpenClaim := { program := "ytmhbhclfojmjdaagreatdoor", sum := "214c2b7832283ae6bbd33f2e13553be54a8858907c5b5ef6619780cba22f3465", func := "probecard/probecardlaw17.TracesWalk", spec := "tracesWalk", inPlace := ["internal/bytealg.IndexByteString", "internal/bytealg.IndexString"], unfollowed := true, recurses := true, named := ["probecard/logic.fanins", "internal/bytealg.MaxLen"], plainKeys := false, apart := false, laid := [("probecard/logic.fanins", laid_probecard_logic_fanins)], narrowed := true }
def TracesWalkUptoSaid : Prop := tracesWalkUptoRow.holds Tryz.pinned (OpenSpec.upto tracesWalkSpec)

/-- 'probecardlaw17.TracesDetected', WHERE WHAT IT READS IS OF BULK AT MOST 1048576: true; the input reads as it did. -/
def tracesDetectedUptoRow : OpenClaim := { program := "ytmhbhclfojmjdaagreatdoor", sum := "214c2b7832283ae6bbd33f2e13553be54a8858907c5b5ef6619780cba22f3465", func := "probecard/probecardlaw17.TracesDetected", spec := "tracesDetected", inPlace := ["internal/bytealg.IndexByteString", "internal/bytealg.IndexString"], unfollowed := true, recurses := true, named := ["probecard/logic.fanins", "internal/bytealg.MaxLen"], plainKeys := false, apart := false, laid := [("probecard/logic.fanins", laid_probecard_logic_fanins)], narrowed := true }
def TracesDetectedUptoSaid : Prop := tracesDetectedUptoRow.holds Tryz.pinned (OpenSpec.upto tracesDetectedSpec)

end Rows
end Go.Proofs.YtmhbhclfojmjdaaGreatDoor
