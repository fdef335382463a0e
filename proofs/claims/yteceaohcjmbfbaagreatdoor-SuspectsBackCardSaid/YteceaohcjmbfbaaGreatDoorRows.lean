/-
  NARROWER THAN 'FOR EVERY INPUT', by the rows' own cells (each row's printed sentence says how): SuspectsRank: laid · SuspectsExact: laid · SuspectsLog: laid · SuspectsTrue: laid · SuspectsBack: laid.
  DERIVED. THE GIVEN ROWS OF THIS SEAT. 5 by the template 'for every input the law returns true; each argument reads behind the call as it read before'; 0 by the template 'total and deterministic' (their statements: YteceaohcjmbfbaaGreatDoorTotals.lean).
  GIVEN WITH THE SEED: the statements are not yours to turn. If you find one false, say at which input.
  Laid BY PROGRAM, IN A SANDBOX (cutbox-rows.mjs): the forced cells as the released guide's own fill.sh prints them over the translation 47d9a739a9dce08c… (all of the seat's roots in one cut). By AI agents, Wed Nov 11 2026. No macro, syntax, notation, axiom, sorry.
-/
import Derived.Test.YteceaohcjmbfbaaGreatDoorChecked
import GoSem.Claim
import GoSem.ClaimJoined
import GoSem.ClaimMapViews
import Derived.JoinedTies
import Derived.KernelRfl
namespace Go.Proofs.YteceaohcjmbfbaaGreatDoor
/- THE CELL 'sum', in the pinned program and in every row, IS THE sha256 OF THE DUMP (.gsa) THAT YteceaohcjmbfbaaGreatDoorProg.lean LOADS. Nothing in Lean hashes anything: it is a label: what it is worth is what the hold of that sum in a sandbox is worth. -/
noncomputable def Tryz.pinned : Pinned := { name := "yteceaohcjmbfbaagreatdoor", sum := "47d9a739a9dce08ce78ccbe8d10249fb0962c1b78b486b78fdbacd24193e247c", checked := Tryz.checked }
namespace Rows
def none {H : Type} : Left H := { results := [], args := [] }

/- WHAT THE LISTED PACKAGE-LEVEL VARIABLES READ AS WHEN THE CALL BEGINS. Each datum BY PROGRAM (the guide's laid-datum.mjs) off the statement by which the dump's own 'gosem.cut.vars' lays the variable. In a bare row this is a premise. The card (YteceaohcjmbfbaaGreatDoorCards.lean) ties it to the program's text. -/
def laid_probecard_logic_fanins {H : Type} : DataW H := .agg [.agg [.lit (.int .i64 0), .lit (.int .i64 0)], .agg [.lit (.int .i64 0), .lit (.int .i64 0)], .agg [.lit (.int .i64 0), .lit (.int .i64 0)], .agg [.lit (.int .i64 1), .lit (.int .i64 1)], .agg [.lit (.int .i64 1), .lit (.int .i64 1)], .agg [.lit (.int .i64 2), .lit (.int .i64 16)], .agg [.lit (.int .i64 2), .lit (.int .i64 16)], .agg [.lit (.int .i64 2), .lit (.int .i64 16)], .agg [.lit (.int .i64 2), .lit (.int .i64 16)], .agg [.lit (.int .i64 2), .lit (.int .i64 16)], .agg [.lit (.int .i64 2), .lit (.int .i64 16)], .agg [.lit (.int .i64 3), .lit (.int .i64 3)], .agg [.lit (.int .i64 2), .lit (.int .i64 2)], .agg [.lit (.int .i64 1), .lit (.int .i64 16)], .agg [.lit (.int .i64 1), .lit (.int .i64 1)], .agg [.lit (.int .i64 0), .lit (.int .i64 0)]]

/-- 'probecardlaw22.SuspectsRank': WHATEVER THE INPUT: true; the input reads as it did. -/
def suspectsRankSpec : ChangeSpec := { name := "suspectsRank", fn := fun _ => fun
  | [d1, d2] => { results := [.lit (.bool true)], args := [d1, d2] }
  | _ => none }
def suspectsRankRow : OpenClaim := { program := "yteceaohcjmbfbaagreatdoor", sum := "47d9a739a9dce08ce78ccbe8d10249fb0962c1b78b486b78fdbacd24193e247c", func := "probecard/probecardlaw22.SuspectsRank", spec := "suspectsRank", inPlace := ["internal/bytealg.IndexByteString", "internal/bytealg.IndexString"], unfollowed := true, recurses := true, named := ["probecard/logic.fanins", "internal/bytealg.MaxLen"], plainKeys := false, apart := false, laid := [("probecard/logic.fanins", laid_probecard_logic_fanins)] }
def SuspectsRankSaid : Prop := suspectsRankRow.holds Tryz.pinned (OpenSpec.ofChange suspectsRankSpec)

/-- ITS FALSE NEIGHBOUR: 'it returns false'. Refute it at one input. -/
def suspectsRankWrong : ChangeSpec := { name := "suspectsRank", fn := fun _ => fun
  | [d1, d2] => { results := [.lit (.bool false)], args := [d1, d2] }
  | _ => none }
def SuspectsRankWrongFalsely : Prop := suspectsRankRow.holds Tryz.pinned (OpenSpec.ofChange suspectsRankWrong)

/-- 'probecardlaw22.SuspectsExact': WHATEVER THE INPUT: true; the input reads as it did. -/
def suspectsExactSpec : ChangeSpec := { name := "suspectsExact", fn := fun _ => fun
  | [d1, d2, d3] => { results := [.lit (.bool true)], args := [d1, d2, d3] }
  | _ => none }
def suspectsExactRow : OpenClaim := { program := "yteceaohcjmbfbaagreatdoor", sum := "47d9a739a9dce08ce78ccbe8d10249fb0962c1b78b486b78fdbacd24193e247c", func := "probecard/probecardlaw22.SuspectsExact", spec := "suspectsExact", inPlace := ["internal/bytealg.IndexByteString", "internal/bytealg.IndexString"], unfollowed := true, recurses := true, named := ["probecard/logic.fanins", "internal/bytealg.MaxLen"], plainKeys := false, apart := false, laid := [("probecard/logic.fanins", laid_probecard_logic_fanins)] }
def SuspectsExactSaid : Prop := suspectsExactRow.holds Tryz.pinned (OpenSpec.ofChange suspectsExactSpec)

/-- ITS FALSE NEIGHBOUR: 'it returns false'. Refute it at one input. -/
def suspectsExactWrong : ChangeSpec := { name := "suspectsExact", fn := fun _ => fun
  | [d1, d2, d3] => { results := [.lit (.bool false)], args := [d1, d2, d3] }
  | _ => none }
def SuspectsExactWrongFalsely : Prop := suspectsExactRow.holds Tryz.pinned (OpenSpec.ofChange suspectsExactWrong)

/-- 'probecardlaw22.SuspectsLog': WHATEVER THE INPUT: true; the input reads as it did. -/
def suspectsLogSpec : ChangeSpec := { name := "suspectsLog", fn := fun _ => fun
  | [d] => { results := [.lit (.bool true)], args := [d] }
  | _ => none }
def suspectsLogRow : OpenClaim := { program := "yteceaohcjmbfbaagreatdoor", sum := "47d9a739a9dce08ce78ccbe8d10249fb0962c1b78b486b78fdbacd24193e247c", func := "probecard/probecardlaw22.SuspectsLog", spec := "suspectsLog", inPlace := ["internal/bytealg.IndexByteString", "internal/bytealg.IndexString"], unfollowed := true, recurses := true, named := ["probecard/logic.fanins", "internal/bytealg.MaxLen"], plainKeys := false, apart := false, laid := [("probecard/logic.fanins", laid_probecard_logic_fanins)] }
def SuspectsLogSaid : Prop := suspectsLogRow.holds Tryz.pinned (OpenSpec.ofChange suspectsLogSpec)

/-- ITS FALSE NEIGHBOUR: 'it returns false'. Refute it at one input. -/
def suspectsLogWrong : ChangeSpec := { name := "suspectsLog", fn := fun _ => fun
  | [d] => { results := [.lit (.bool false)], args := [d] }
  | _ => none }
def SuspectsLogWrongFalsely : Prop := suspectsLogRow.holds Tryz.pinned (OpenSpec.ofChange suspectsLogWrong)

/-- 'probecardlaw22.SuspectsTrue': WHATEVER THE INPUT: true; the input reads as it did. -/
def suspectsTrueSpec : ChangeSpec := { name := "suspectsTrue", fn := fun _ => fun
  | [d1, d2] => { results := [.lit (.bool true)], args := [d1, d2] }
  | _ => none }
def suspectsTrueRow : OpenClaim := { program := "yteceaohcjmbfbaagreatdoor", sum := "47d9a739a9dce08ce78ccbe8d10249fb0962c1b78b486b78fdbacd24193e247c", func := "probecard/probecardlaw22.SuspectsTrue", spec := "suspectsTrue", inPlace := ["internal/bytealg.IndexByteString", "internal/bytealg.IndexString"], unfollowed := true, recurses := true, named := ["probecard/logic.fanins", "internal/bytealg.MaxLen"], plainKeys := false, apart := false, laid := [("probecard/logic.fanins", laid_probecard_logic_fanins)] }
def SuspectsTrueSaid : Prop := suspectsTrueRow.holds Tryz.pinned (OpenSpec.ofChange suspectsTrueSpec)

/-- ITS FALSE NEIGHBOUR: 'it returns false'. Refute it at one input. -/
def suspectsTrueWrong : ChangeSpec := { name := "suspectsTrue", fn := fun _ => fun
  | [d1, d2] => { results := [.lit (.bool false)], args := [d1, d2] }
  | _ => none }
def SuspectsTrueWrongFalsely : Prop := suspectsTrueRow.holds Tryz.pinned (OpenSpec.ofChange suspectsTrueWrong)

/-- 'probecardlaw22.SuspectsBack': WHATEVER THE INPUT: true; the input reads as it did. -/
def suspectsBackSpec : ChangeSpec := { name := "suspectsBack", fn := fun _ => fun
  | [d1, d2] => { results := [.lit (.bool true)], args := [d1, d2] }
  | _ => none }
def suspectsBackRow : OpenClaim := { program := "yteceaohcjmbfbaagreatdoor", sum := "47d9a739a9dce08ce78ccbe8d10249fb0962c1b78b486b78fdbacd24193e247c", func := "probecard/probecardlaw22.SuspectsBack", spec := "suspectsBack", inPlace := ["internal/bytealg.IndexByteString", "internal/bytealg.IndexString"], unfollowed := true, recurses := true, named := ["probecard/logic.fanins", "internal/bytealg.MaxLen"], plainKeys := false, apart := false, laid := [("probecard/logic.fanins", laid_probecard_logic_fanins)] }
def SuspectsBackSaid : Prop := suspectsBackRow.holds Tryz.pinned (OpenSpec.ofChange suspectsBackSpec)

/-- ITS FALSE NEIGHBOUR: 'it returns false'. Refute it at one input. -/
def suspectsBackWrong : ChangeSpec := { name := "suspectsBack", fn := fun _ => fun
  | [d1, d2] => { results := [.lit (.bool false)], args := [d1, d2] }
  | _ => none }
def SuspectsBackWrongFalsely : Prop := suspectsBackRow.holds Tryz.pinned (OpenSpec.ofChange suspectsBackWrong)

/- THE SECOND FORM. 'bulk': how many values and letters a reading holds, each counted each time it is reached (what is shared counts as often as it is met; a slice's spare places count too). A statement '..UptoSaid' is the law's where the arguments, and the package variables that the reading takes, are together of bulk at most 1048576: NARROWER than '..Said'. Prove '..Said' where nothing that the law and all that it calls make is longer than what came in: it says more and counts as full. Else prove '..UptoSaid'. A law counts once. -/
mutual
def uptoBulk {H : Type} : DataW H → Nat
  | .lit (.string bytes) => bytes.length + 1
  | .lit _ => 1
  | .nil => 1
  | .ptr d => uptoBulk d + 1
  | .slice elems spare => uptoBulkAll elems + uptoBulkAll spare + 1
  | .agg parts => uptoBulkAll parts + 1
  | .iface _ d => uptoBulk d + 1
  | .map entries => uptoBulkEntries entries + 1
  | .held _ => 1
def uptoBulkAll {H : Type} : List (DataW H) → Nat
  | [] => 0
  | d :: r => uptoBulk d + uptoBulkAll r
def uptoBulkEntries {H : Type} : List (Lit × DataW H) → Nat
  | [] => 0
  | x :: r => uptoBulkEntry x + uptoBulkEntries r
def uptoBulkEntry {H : Type} : Lit × DataW H → Nat
  | (.string bytes, d) => bytes.length + uptoBulk d + 1
  | (_, d) => uptoBulk d + 1
 end
def uptoSmall : (H : Type) → List (DataW H) → Bool := fun _ ds => decide (uptoBulkAll ds ≤ 1048576)
def OpenSpec.upto (s : _root_.Go.ChangeSpec) : _root_.Go.OpenSpec := { _root_.Go.OpenSpec.ofChange s with cond := some uptoSmall }

/-- 'probecardlaw22.SuspectsRank', WHERE WHAT IT READS IS OF BULK AT MOST 1048576: true; the input reads as it did. -/
def suspectsRankUptoRow : OpenClaim := { program := "yteceaohcjmbfbaagreatdoor", sum := "47d9a739a9dce08ce78ccbe8d10249fb0962c1b78b486b78fdbacd24193e247c", func := "probecard/probecardlaw22.SuspectsRank", spec := "suspectsRank", inPlace := ["internal/bytealg.IndexByteString", "internal/bytealg.IndexString"], unfollowed := true, recurses := true, named := ["probecard/logic.fanins", "internal/bytealg.MaxLen"], plainKeys := false, apart := false, laid := [("probecard/logic.fanins", laid_probecard_logic_fanins)], narrowed := true }
def SuspectsRankUptoSaid : Prop := suspectsRankUptoRow.holds Tryz.pinned (OpenSpec.upto suspectsRankSpec)

/-- 'probecardlaw22.SuspectsExact', WHERE WHAT IT READS IS OF BULK AT MOST 1048576: true; the input reads as it did. -/
def suspectsExactUptoRow : OpenClaim := { program := "yteceaohcjmbfbaagreatdoor", sum := "47d9a739a9dce08ce78ccbe8d10249fb0962c1b78b486b78fdbacd24193e247c", func := "probecard/probecardlaw22.SuspectsExact", spec := "suspectsExact", inPlace := ["internal/bytealg.IndexByteString", "internal/bytealg.IndexString"], unfollowed := true, recurses := true, named := ["probecard/logic.fanins", "internal/bytealg.MaxLen"], plainKeys := false, apart := false, laid := [("probecard/logic.fanins", laid_probecard_logic_fanins)], narrowed := true }
def SuspectsExactUptoSaid : Prop := suspectsExactUptoRow.holds Tryz.pinned (OpenSpec.upto suspectsExactSpec)

/-- 'probecardlaw22.SuspectsLog', WHERE WHAT IT READS IS OF BULK AT MOST 1048576: true; the input reads as it did. -/
def suspectsLogUptoRow : OpenClaim := { program := "yteceaohcjmbfbaagreatdoor", sum := "47d9a739a9dce08ce78ccbe8d10249fb0962c1b78b486b78fdbacd24193e247c", func := "probecard/probecardlaw22.SuspectsLog", spec := "suspectsLog", inPlace := ["internal/bytealg.IndexByteString", "internal/bytealg.IndexString"], unfollowed := true, recurses := true, named := ["probecard/logic.fanins", "internal/bytealg.MaxLen"], plainKeys := false, apart := false, laid := [("probecard/logic.fanins", laid_probecard_logic_fanins)], narrowed := true }
def SuspectsLogUptoSaid : Prop := suspectsLogUptoRow.holds Tryz.pinned (OpenSpec.upto suspectsLogSpec)

/-- 'probecardlaw22.SuspectsTrue', WHERE WHAT IT READS IS OF BULK AT MOST 1048576: true; the input reads as it did. -/
def suspectsTrueUptoRow : OpenClaim := { program := "yteceaohcjmbfbaagreatdoor", sum := "47d9a739a9dce08ce78ccbe8d10249fb0962c1b78b486b78fdbacd24193e247c", func := "probecard/probecardlaw22.SuspectsTrue", spec := "suspectsTrue", inPlace := ["internal/bytealg.IndexByteString", "internal/bytealg.IndexString"], unfollowed := true, recurses := true, named := ["probecard/logic.fanins", "internal/bytealg.MaxLen"], plainKeys := false, apart := false, laid := [("probecard/logic.fanins", laid_probecard_logic_fanins)], narrowed := true }
def SuspectsTrueUptoSaid : Prop := suspectsTrueUptoRow.holds Tryz.pinned (OpenSpec.upto suspectsTrueSpec)

/-- 'probecardlaw22.SuspectsBack', WHERE WHAT IT READS IS OF BULK AT MOST 1048576: true; the input reads as it did. -/
def suspectsBackUptoRow : OpenClaim := { program := "yteceaohcjmbfbaagreatdoor", sum := "47d9a739a9dce08ce78ccbe8d10249fb0962c1b78b486b78fdbacd24193e247c", func := "probecard/probecardlaw22.SuspectsBack", spec := "suspectsBack", inPlace := ["internal/bytealg.IndexByteString", "internal/bytealg.IndexString"], unfollowed := true, recurses := true, named := ["probecard/logic.fanins", "internal/bytealg.MaxLen"], plainKeys := false, apart := false, laid := [("probecard/logic.fanins", laid_probecard_logic_fanins)], narrowed := true }
def SuspectsBackUptoSaid : Prop := suspectsBackUptoRow.holds Tryz.pinned (OpenSpec.upto suspectsBackSpec)

end Rows
end Go.Proofs.YteceaohcjmbfbaaGreatDoor
