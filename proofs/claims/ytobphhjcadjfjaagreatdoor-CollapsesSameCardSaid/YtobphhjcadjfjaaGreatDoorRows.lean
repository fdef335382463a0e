/-
  NARROWER THAN 'FOR EVERY INPUT', by the rows' own cells (each row's printed sentence says how): CollapsesSame: laid · CollapsesDominance: laid · CollapsesCore: laid · CollapsesExpand: laid.
  DERIVED. THE GIVEN ROWS OF THIS SEAT. 4 by the template 'for every input the law returns true; each argument reads behind the call as it read before'; 0 by the template 'total and deterministic' (their statements: YtobphhjcadjfjaaGreatDoorTotals.lean).
  GIVEN WITH THE SEED: the statements are not yours to turn. If you find one false, say at which input.
  Laid BY PROGRAM, IN A SANDBOX (cutbox-rows.mjs): the forced cells as the released guide's own fill.sh prints them over the translation dacb004d9ce0a390… (all of the seat's roots in one cut). By AI agents, Wed Nov 11 2026. No macro, syntax, notation, axiom, sorry.
-/
import Derived.Test.YtobphhjcadjfjaaGreatDoorChecked
import GoSem.Claim
import GoSem.ClaimJoined
import GoSem.ClaimMapViews
import Derived.JoinedTies
import Derived.KernelRfl
namespace Go.Proofs.YtobphhjcadjfjaaGreatDoor
/- THE CELL 'sum', in the pinned program and in every row, IS THE sha256 OF THE DUMP (.gsa) THAT YtobphhjcadjfjaaGreatDoorProg.lean LOADS. Nothing in Lean hashes anything: it is a label: what it is worth is what the hold of that sum in a sandbox is worth. -/
noncomputable def Tryz.pinned : Pinned := { name := "ytobphhjcadjfjaagreatdoor", sum := "dacb004d9ce0a390ffa8024dce65779824e72e5e8521885bf6f8e4b0751866c7", checked := Tryz.checked }
namespace Rows
def none {H : Type} : Left H := { results := [], args := [] }

/- WHAT THE LISTED PACKAGE-LEVEL VARIABLES READ AS WHEN THE CALL BEGINS. Each datum BY PROGRAM (the guide's laid-datum.mjs) off the statement by which the dump's own 'gosem.cut.vars' lays the variable. In a bare row this is a premise. The card (YtobphhjcadjfjaaGreatDoorCards.lean) ties it to the program's text. -/
def laid_probecard_logic_fanins {H : Type} : DataW H := .agg [.agg [.lit (.int .i64 0), .lit (.int .i64 0)], .agg [.lit (.int .i64 0), .lit (.int .i64 0)], .agg [.lit (.int .i64 0), .lit (.int .i64 0)], .agg [.lit (.int .i64 1), .lit (.int .i64 1)], .agg [.lit (.int .i64 1), .lit (.int .i64 1)], .agg [.lit (.int .i64 2), .lit (.int .i64 16)], .agg [.lit (.int .i64 2), .lit (.int .i64 16)], .agg [.lit (.int .i64 2), .lit (.int .i64 16)], .agg [.lit (.int .i64 2), .lit (.int .i64 16)], .agg [.lit (.int .i64 2), .lit (.int .i64 16)], .agg [.lit (.int .i64 2), .lit (.int .i64 16)], .agg [.lit (.int .i64 3), .lit (.int .i64 3)], .agg [.lit (.int .i64 2), .lit (.int .i64 2)], .agg [.lit (.int .i64 1), .lit (.int .i64 16)], .agg [.lit (.int .i64 1), .lit (.int .i64 1)], .agg [.lit (.int .i64 0), .lit (.int .i64 0)]]

/-- 'probecardlaw14.CollapsesSame': WHATEVER THE INPUT: true; the input reads as it did. -/
def collapsesSameSpec : ChangeSpec := { name := "collapsesSame", fn := fun _ => fun
  | [d1, d2] => { results := [.lit (.bool true)], args := [d1, d2] }
  | _ => none }
def collapsesSameRow : OpenClaim := { program := "ytobphhjcadjfjaagreatdoor", sum := "dacb004d9ce0a390ffa8024dce65779824e72e5e8521885bf6f8e4b0751866c7", func := "probecard/probecardlaw14.CollapsesSame", spec := "collapsesSame", inPlace := ["internal/bytealg.IndexByteString", "internal/bytealg.IndexString"], unfollowed := true, recurses := true, named := ["probecard/logic.fanins", "internal/bytealg.MaxLen"], plainKeys := false, apart := false, laid := [("probecard/logic.fanins", laid_probecard_logic_fanins)] }
def CollapsesSameSaid : Prop := collapsesSameRow.holds Tryz.pinned (OpenSpec.ofChange collapsesSameSpec)

/-- ITS FALSE NEIGHBOUR: 'it returns false'. Refute it at one input. -/
def collapsesSameWrong : ChangeSpec := { name := "collapsesSame", fn := fun _ => fun
  | [d1, d2] => { results := [.lit (.bool false)], args := [d1, d2] }
  | _ => none }
def CollapsesSameWrongFalsely : Prop := collapsesSameRow.holds Tryz.pinned (OpenSpec.ofChange collapsesSameWrong)

/-- 'probecardlaw14.CollapsesDominance': WHATEVER THE INPUT: true; the input reads as it did. -/
def collapsesDominanceSpec : ChangeSpec := { name := "collapsesDominance", fn := fun _ => fun
  | [d1, d2] => { results := [.lit (.bool true)], args := [d1, d2] }
  | _ => none }
def collapsesDominanceRow : OpenClaim := { program := "ytobphhjcadjfjaagreatdoor", sum := "dacb004d9ce0a390ffa8024dce65779824e72e5e8521885bf6f8e4b0751866c7", func := "probecard/probecardlaw14.CollapsesDominance", spec := "collapsesDominance", inPlace := ["internal/bytealg.IndexByteString", "internal/bytealg.IndexString"], unfollowed := true, recurses := true, named := ["probecard/logic.fanins", "internal/bytealg.MaxLen"], plainKeys := false, apart := false, laid := [("probecard/logic.fanins", laid_probecard_logic_fanins)] }
def CollapsesDominanceSaid : Prop := collapsesDominanceRow.holds Tryz.pinned (OpenSpec.ofChange collapsesDominanceSpec)

/-- ITS FALSE NEIGHBOUR: 'it returns false'. Refute it at one input. -/
def collapsesDominanceWrong : ChangeSpec := { name := "collapsesDominance", fn := fun _ => fun
  | [d1, d2] => { results := [.lit (.bool false)], args := [d1, d2] }
  | _ => none }
def CollapsesDominanceWrongFalsely : Prop := collapsesDominanceRow.holds Tryz.pinned (OpenSpec.ofChange collapsesDominanceWrong)

/-- 'probecardlaw14.CollapsesCore': WHATEVER THE INPUT: true; the input reads as it did. -/
def collapsesCoreSpec : ChangeSpec := { name := "collapsesCore", fn := fun _ => fun
  | [d1, d2] => { results := [.lit (.bool true)], args := [d1, d2] }
  | _ => none }
def collapsesCoreRow : OpenClaim := { program := "ytobphhjcadjfjaagreatdoor", sum := "dacb004d9ce0a390ffa8024dce65779824e72e5e8521885bf6f8e4b0751866c7", func := "probecard/probecardlaw14.CollapsesCore", spec := "collapsesCore", inPlace := ["internal/bytealg.IndexByteString", "internal/bytealg.IndexString"], unfollowed := true, recurses := true, named := ["probecard/logic.fanins", "internal/bytealg.MaxLen"], plainKeys := false, apart := false, laid := [("probecard/logic.fanins", laid_probecard_logic_fanins)] }
def CollapsesCoreSaid : Prop := collapsesCoreRow.holds Tryz.pinned (OpenSpec.ofChange collapsesCoreSpec)

/-- ITS FALSE NEIGHBOUR: 'it returns false'. Refute it at one input. -/
def collapsesCoreWrong : ChangeSpec := { name := "collapsesCore", fn := fun _ => fun
  | [d1, d2] => { results := [.lit (.bool false)], args := [d1, d2] }
  | _ => none }
def CollapsesCoreWrongFalsely : Prop := collapsesCoreRow.holds Tryz.pinned (OpenSpec.ofChange collapsesCoreWrong)

/-- 'probecardlaw14.CollapsesExpand': WHATEVER THE INPUT: true; the input reads as it did. -/
def collapsesExpandSpec : ChangeSpec := { name := "collapsesExpand", fn := fun _ => fun
  | [d1, d2, d3] => { results := [.lit (.bool true)], args := [d1, d2, d3] }
  | _ => none }
def collapsesExpandRow : OpenClaim := { program := "ytobphhjcadjfjaagreatdoor", sum := "dacb004d9ce0a390ffa8024dce65779824e72e5e8521885bf6f8e4b0751866c7", func := "probecard/probecardlaw14.CollapsesExpand", spec := "collapsesExpand", inPlace := ["internal/bytealg.IndexByteString", "internal/bytealg.IndexString"], unfollowed := true, recurses := true, named := ["probecard/logic.fanins", "internal/bytealg.MaxLen"], plainKeys := false, apart := false, laid := [("probecard/logic.fanins", laid_probecard_logic_fanins)] }
def CollapsesExpandSaid : Prop := collapsesExpandRow.holds Tryz.pinned (OpenSpec.ofChange collapsesExpandSpec)

/-- ITS FALSE NEIGHBOUR: 'it returns false'. Refute it at one input. -/
def collapsesExpandWrong : ChangeSpec := { name := "collapsesExpand", fn := fun _ => fun
  | [d1, d2, d3] => { results := [.lit (.bool false)], args := [d1, d2, d3] }
  | _ => none }
def CollapsesExpandWrongFalsely : Prop := collapsesExpandRow.holds Tryz.pinned (OpenSpec.ofChange collapsesExpandWrong)

/- THE SECOND FORM. 'bulk': how many values and letters a reading holds, each counted each time it is reached (what is shared counts as often as it is met; a slice's spare places count too). A statement '..UptoSaid' is the law's where the arguments, and the package variables that the reading takes, are together of bulk at most 1048576: NARROWER than '..Said'. Prove '..Said' where nothing that the law and all that it calls make is longer than what came in: it says more and counts as full. Else prove '..UptoSaid'. A law counts once. -/
mutual
def uptoBulk {H : Type} : DataW H → Nat
  | .lit (.string bytes) => bytes.length + 1
  | .lit _ => 1
  | .nil => 1
  | .ptr d => uptoBulk d + 1
  | .slice elems spare => uptoBulkAll elems + uptoBulkAll spare + 1
  | .agg parts => uptoBulkAll parts + 1
  | .iface _ d => uptoBulk d + 1
  | .map entries => uptoBulkEntries entries + 1
  | .held _ => 1
def uptoBulkAll {H : Type} : List (DataW H) → Nat
  | [] => 0
  | d :: r => uptoBulk d + uptoBulkAll r
def uptoBulkEntries {H : Type} : List (Lit × DataW H) → Nat
  | [] => 0
  | x :: r => uptoBulkEntry x + uptoBulkEntries r
def uptoBulkEntry {H : Type} : Lit × DataW H → Nat
  | (.string bytes, d) => bytes.length + uptoBulk d + 1
  | (_, d) => uptoBulk d + 1
 end
def uptoSmall : (H : Type) → List (DataW H) → Bool := fun _ ds => decide (uptoBulkAll ds ≤ 1048576)
def OpenSpec.upto (s : _root_.Go.ChangeSpec) : _root_.Go.OpenSpec := { _root_.Go.OpenSpec.ofChange s with cond := some uptoSmall }

/-- 'probecardlaw14.CollapsesSame', WHERE WHAT IT READS IS OF BULK AT MOST 1048576: true; the input reads as it did. -/
def collapsesSameUptoRow : OpenClaim := { program := "ytobphhjcadjfjaagreatdoor", sum := "dacb004d9ce0a390ffa8024dce65779824e72e5e8521885bf6f8e4b0751866c7", func := "probecard/probecardlaw14.CollapsesSame", spec := "collapsesSame", inPlace := ["internal/bytealg.IndexByteString", "internal/bytealg.IndexString"], unfollowed := true, recurses := true, named := ["probecard/logic.fanins", "internal/bytealg.MaxLen"], plainKeys := false, apart := false, laid := [("probecard/logic.fanins", laid_probecard_logic_fanins)], narrowed := true }
def CollapsesSameUptoSaid : Prop := collapsesSameUptoRow.holds Tryz.pinned (OpenSpec.upto collapsesSameSpec)

/-- 'probecardlaw14.CollapsesDominance', WHERE WHAT IT READS IS OF BULK AT MOST 1048576: true; the input reads as it did. -/
def collapsesDominanceUptoRow : OpenClaim := { program := "ytobphhjcadjfjaagreatdoor", sum := "dacb004d9ce0a390ffa8024dce65779824e72e5e8521885bf6f8e4b0751866c7", func := "probecard/probecardlaw14.CollapsesDominance", spec := "collapsesDominance", inPlace := ["internal/bytealg.IndexByteString", "internal/bytealg.IndexString"], unfollowed := true, recurses := true, named := ["probecard/logic.fanins", "internal/bytealg.MaxLen"], plainKeys := false, apart := false, laid := [("probecard/logic.fanins", laid_probecard_logic_fanins)], narrowed := true }
def CollapsesDominanceUptoSaid : Prop := collapsesDominanceUptoRow.holds Tryz.pinned (OpenSpec.upto collapsesDominanceSpec)

/-- 'probecardlaw14.CollapsesCore', WHERE WHAT IT READS IS OF BULK AT MOST 1048576: true; the input reads as it did. -/
def collapsesCoreUptoRow : OpenClaim := { program := "ytobphhjcadjfjaagreatdoor", sum := "dacb004d9ce0a390ffa8024dce65779824e72e5e8521885bf6f8e4b0751866c7", func := "probecard/probecardlaw14.CollapsesCore", spec := "collapsesCore", inPlace := ["internal/bytealg.IndexByteString", "internal/bytealg.IndexString"], unfollowed := true, recurses := true, named := ["probecard/logic.fanins", "internal/bytealg.MaxLen"], plainKeys := false, apart := false, laid := [("probecard/logic.fanins", laid_probecard_logic_fanins)], narrowed := true }
def CollapsesCoreUptoSaid : Prop := collapsesCoreUptoRow.holds Tryz.pinned (OpenSpec.upto collapsesCoreSpec)

/-- 'probecardlaw14.CollapsesExpand', WHERE WHAT IT READS IS OF BULK AT MOST 1048576: true; the input reads as it did. -/
def collapsesExpandUptoRow : OpenClaim := { program := "ytobphhjcadjfjaagreatdoor", sum := "dacb004d9ce0a390ffa8024dce65779824e72e5e8521885bf6f8e4b0751866c7", func := "probecard/probecardlaw14.CollapsesExpand", spec := "collapsesExpand", inPlace := ["internal/bytealg.IndexByteString", "internal/bytealg.IndexString"], unfollowed := true, recurses := true, named := ["probecard/logic.fanins", "internal/bytealg.MaxLen"], plainKeys := false, apart := false, laid := [("probecard/logic.fanins", laid_probecard_logic_fanins)], narrowed := true }
def CollapsesExpandUptoSaid : Prop := collapsesExpandUptoRow.holds Tryz.pinned (OpenSpec.upto collapsesExpandSpec)

end Rows
end Go.Proofs.YtobphhjcadjfjaaGreatDoor
