/-
  NARROWER THAN 'FOR EVERY INPUT', by the rows' own cells (each row's printed sentence says how): CollapsesRules: laid · CollapsesPairs: laid · CollapsesClasses: laid.
  DERIVED. THE GIVEN ROWS OF THIS SEAT. 3 by the template 'for every input the law returns true; each argument reads behind the call as it read before'; 0 by the template 'total and deterministic' (their statements: YtobphhjcadjfjaaDoorTotals.lean).
  GIVEN WITH THE SEED: the statements are not yours to turn. If you find one false, say at which input.
  Laid BY PROGRAM, IN A SANDBOX (cutbox-rows.mjs): the forced cells as the released guide's own fill.sh prints them over the translation ebe983a21a300b96… (all of the seat's roots in one cut). By AI agents, Wed Nov 11 2026. No macro, syntax, notation, axiom, sorry.
-/
import Derived.Test.YtobphhjcadjfjaaDoorChecked
import GoSem.Claim
import GoSem.ClaimJoined
import GoSem.ClaimMapViews
import Derived.JoinedTies
import Derived.KernelRfl
namespace Go.Proofs.YtobphhjcadjfjaaDoor
/- THE CELL 'sum', in the pinned program and in every row, IS THE sha256 OF THE DUMP (.gsa) THAT YtobphhjcadjfjaaDoorProg.lean LOADS. Nothing in Lean hashes anything: it is a label: what it is worth is what the hold of that sum in a sandbox is worth. -/
noncomputable def Tryd.pinned : Pinned := { name := "ytobphhjcadjfjaadoor", sum := "ebe983a21a300b96962505ff58b139e857077cf0c2f47cb9c2d4426c30179c20", checked := Tryd.checked }
namespace Rows
def none {H : Type} : Left H := { results := [], args := [] }

/- WHAT THE LISTED PACKAGE-LEVEL VARIABLES READ AS WHEN THE CALL BEGINS. Each datum BY PROGRAM (the guide's laid-datum.mjs) off the statement by which the dump's own 'gosem.cut.vars' lays the variable. In a bare row this is a premise. The card (YtobphhjcadjfjaaDoorCards.lean) ties it to the program's text. -/
def laid_probecard_logic_fanins {H : Type} : DataW H := .agg [.agg [.lit (.int .i64 0), .lit (.int .i64 0)], .agg [.lit (.int .i64 0), .lit (.int .i64 0)], .agg [.lit (.int .i64 0), .lit (.int .i64 0)], .agg [.lit (.int .i64 1), .lit (.int .i64 1)], .agg [.lit (.int .i64 1), .lit (.int .i64 1)], .agg [.lit (.int .i64 2), .lit (.int .i64 16)], .agg [.lit (.int .i64 2), .lit (.int .i64 16)], .agg [.lit (.int .i64 2), .lit (.int .i64 16)], .agg [.lit (.int .i64 2), .lit (.int .i64 16)], .agg [.lit (.int .i64 2), .lit (.int .i64 16)], .agg [.lit (.int .i64 2), .lit (.int .i64 16)], .agg [.lit (.int .i64 3), .lit (.int .i64 3)], .agg [.lit (.int .i64 2), .lit (.int .i64 2)], .agg [.lit (.int .i64 1), .lit (.int .i64 16)], .agg [.lit (.int .i64 1), .lit (.int .i64 1)], .agg [.lit (.int .i64 0), .lit (.int .i64 0)]]

/-- 'probecardlaw14.CollapsesRules': WHATEVER THE INPUT: true; the input reads as it did. -/
def collapsesRulesSpec : ChangeSpec := { name := "collapsesRules", fn := fun _ => fun
  | [d] => { results := [.lit (.bool true)], args := [d] }
  | _ => none }
def collapsesRulesRow : OpenClaim := { program := "ytobphhjcadjfjaadoor", sum := "ebe983a21a300b96962505ff58b139e857077cf0c2f47cb9c2d4426c30179c20", func := "probecard/probecardlaw14.CollapsesRules", spec := "collapsesRules", inPlace := ["internal/bytealg.IndexByteString", "internal/bytealg.IndexString"], unfollowed := true, recurses := true, named := ["probecard/logic.fanins", "internal/bytealg.MaxLen"], plainKeys := false, apart := false, laid := [("probecard/logic.fanins", laid_probecard_logic_fanins)] }
def CollapsesRulesSaid : Prop := collapsesRulesRow.holds Tryd.pinned (OpenSpec.ofChange collapsesRulesSpec)

/-- ITS FALSE NEIGHBOUR: 'it returns false'. Refute it at one input. -/
def collapsesRulesWrong : ChangeSpec := { name := "collapsesRules", fn := fun _ => fun
  | [d] => { results := [.lit (.bool false)], args := [d] }
  | _ => none }
def CollapsesRulesWrongFalsely : Prop := collapsesRulesRow.holds Tryd.pinned (OpenSpec.ofChange collapsesRulesWrong)

/-- 'probecardlaw14.CollapsesPairs': WHATEVER THE INPUT: true; the input reads as it did. -/
def collapsesPairsSpec : ChangeSpec := { name := "collapsesPairs", fn := fun _ => fun
  | [d] => { results := [.lit (.bool true)], args := [d] }
  | _ => none }
def collapsesPairsRow : OpenClaim := { program := "ytobphhjcadjfjaadoor", sum := "ebe983a21a300b96962505ff58b139e857077cf0c2f47cb9c2d4426c30179c20", func := "probecard/probecardlaw14.CollapsesPairs", spec := "collapsesPairs", inPlace := ["internal/bytealg.IndexByteString", "internal/bytealg.IndexString"], unfollowed := true, recurses := true, named := ["probecard/logic.fanins", "internal/bytealg.MaxLen"], plainKeys := false, apart := false, laid := [("probecard/logic.fanins", laid_probecard_logic_fanins)] }
def CollapsesPairsSaid : Prop := collapsesPairsRow.holds Tryd.pinned (OpenSpec.ofChange collapsesPairsSpec)

/-- ITS FALSE NEIGHBOUR: 'it returns false'. Refute it at one input. -/
def collapsesPairsWrong : ChangeSpec := { name := "collapsesPairs", fn := fun _ => fun
  | [d] => { results := [.lit (.bool false)], args := [d] }
  | _ => none }
def CollapsesPairsWrongFalsely : Prop := collapsesPairsRow.holds Tryd.pinned (OpenSpec.ofChange collapsesPairsWrong)

/-- 'probecardlaw14.CollapsesClasses': WHATEVER THE INPUT: true; the input reads as it did. -/
def collapsesClassesSpec : ChangeSpec := { name := "collapsesClasses", fn := fun _ => fun
  | [d1, d2] => { results := [.lit (.bool true)], args := [d1, d2] }
  | _ => none }
def collapsesClassesRow : OpenClaim := { program := "ytobphhjcadjfjaadoor", sum := "ebe983a21a300b96962505ff58b139e857077cf0c2f47cb9c2d4426c30179c20", func := "probecard/probecardlaw14.CollapsesClasses", spec := "collapsesClasses", inPlace := ["internal/bytealg.IndexByteString", "internal/bytealg.IndexString"], unfollowed := true, recurses := true, named := ["probecard/logic.fanins", "internal/bytealg.MaxLen"], plainKeys := false, apart := false, laid := [("probecard/logic.fanins", laid_probecard_logic_fanins)] }
def CollapsesClassesSaid : Prop := collapsesClassesRow.holds Tryd.pinned (OpenSpec.ofChange collapsesClassesSpec)

/-- ITS FALSE NEIGHBOUR: 'it returns false'. Refute it at one input. -/
def collapsesClassesWrong : ChangeSpec := { name := "collapsesClasses", fn := fun _ => fun
  | [d1, d2] => { results := [.lit (.bool false)], args := [d1, d2] }
  | _ => none }
def CollapsesClassesWrongFalsely : Prop := collapsesClassesRow.holds Tryd.pinned (OpenSpec.ofChange collapsesClassesWrong)

/- THE SECOND FORM. 'bulk': how many values and letters a reading holds, each counted each time it is reached (what is shared counts as often as it is met; a slice's spare places count too). A statement '..UptoSaid' is the law's where the arguments, and the package variables that the reading takes, are together of bulk at most 1048576: NARROWER than '..Said'. Prove '..Said' where nothing that the law and all that it calls make is longer than what came in: it says more and counts as full. Else prove '..UptoSaid'. A law counts once. -/
mutual
def uptoBulk {H : Type} : DataW H → Nat
  | .lit (.string bytes) => bytes.length + 1
  | .lit _ => 1
  | .nil => 1
  | .ptr d => uptoBulk d + 1
  | .slice elems spare => uptoBulkAll elems + uptoBulkAll spare + 1
  | .agg parts => uptoBulkAll parts + 1
  | .iface _ d => uptoBulk d + 1
  | .map entries => uptoBulkEntries entries + 1
  | .held _ => 1
def uptoBulkAll {H : Type} : List (DataW H) → Nat
  | [] => 0
  | d :: r => uptoBulk d + uptoBulkAll r
def uptoBulkEntries {H : Type} : List (Lit × DataW H) → Nat
  | [] => 0
  | x :: r => uptoBulkEntry x + uptoBulkEntries r
def uptoBulkEntry {H : Type} : Lit × DataW H → Nat
  | (.string bytes, d) => bytes.length + uptoBulk d + 1
  | (_, d) => uptoBulk d + 1
 end
def uptoSmall : (H : Type) → List (DataW H) → Bool := fun _ ds => decide (uptoBulkAll ds ≤ 1048576)
def OpenSpec.upto (s : _root_.Go.ChangeSpec) : _root_.Go.OpenSpec := { _root_.Go.OpenSpec.ofChange s with cond := some uptoSmall }

/-- 'probecardlaw14.CollapsesRules', WHERE WHAT IT READS IS OF BULK AT MOST 1048576: true; the input reads as it did. -/
def collapsesRulesUptoRow : OpenClaim := { program := "ytobphhjcadjfjaadoor", sum := "ebe983a21a300b96962505ff58b139e857077cf0c2f47cb9c2d4426c30179c20", func := "probecard/probecardlaw14.CollapsesRules", spec := "collapsesRules", inPlace := ["internal/bytealg.IndexByteString", "internal/bytealg.IndexString"], unfollowed := true, recurses := true, named := ["probecard/logic.fanins", "internal/bytealg.MaxLen"], plainKeys := false, apart := false, laid := [("probecard/logic.fanins", laid_probecard_logic_fanins)], narrowed := true }
def CollapsesRulesUptoSaid : Prop := collapsesRulesUptoRow.holds Tryd.pinned (OpenSpec.upto collapsesRulesSpec)

/-- 'probecardlaw14.CollapsesPairs', WHERE WHAT IT READS IS OF BULK AT MOST 1048576: true; the input reads as it did. -/
def collapsesPairsUptoRow : OpenClaim := { program := "ytobphhjcadjfjaadoor", sum := "ebe983a21a300b96962505ff58b139e857077cf0c2f47cb9c2d4426c30179c20", func := "probecard/probecardlaw14.CollapsesPairs", spec := "collapsesPairs", inPlace := ["internal/bytealg.IndexByteString", "internal/bytealg.IndexString"], unfollowed := true, recurses := true, named := ["probecard/logic.fanins", "internal/bytealg.MaxLen"], plainKeys := false, apart := false, laid := [("probecard/logic.fanins", laid_probecard_logic_fanins)], narrowed := true }
def CollapsesPairsUptoSaid : Prop := collapsesPairsUptoRow.holds Tryd.pinned (OpenSpec.upto collapsesPairsSpec)

/-- 'probecardlaw14.CollapsesClasses', WHERE WHAT IT READS IS OF BULK AT MOST 1048576: true; the input reads as it did. -/
def collapsesClassesUptoRow : OpenClaim := { program := "ytobphhjcadjfjaadoor", sum := "ebe983a21a300b96962505ff58b139e857077cf0c2f47cb9c2d4426c30179c20", func := "probecard/probecardlaw14.CollapsesClasses", spec := "collapsesClasses", inPlace := ["internal/bytealg.IndexByteString", "internal/bytealg.IndexString"], unfollowed := true, recurses := true, named := ["probecard/logic.fanins", "internal/bytealg.MaxLen"], plainKeys := false, apart := false, laid := [("probecard/logic.fanins", laid_probecard_logic_fanins)], narrowed := true }
def CollapsesClassesUptoSaid : Prop := collapsesClassesUptoRow.holds Tryd.pinned (OpenSpec.upto collapsesClassesSpec)

end Rows
end Go.Proofs.YtobphhjcadjfjaaDoor
