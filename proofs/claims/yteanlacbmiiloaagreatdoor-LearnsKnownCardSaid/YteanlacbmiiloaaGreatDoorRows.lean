/-
  NARROWER THAN 'FOR EVERY INPUT', by the rows' own cells (each row's printed sentence says how): ImpliesCloses: laid · LearnsStatic: laid · LearnsSaturates: laid · LearnsCloses: laid · LearnsKnown: laid · LearnsErrors: laid · LearnsSound: laid · LearnsComplete: laid.
  DERIVED. THE GIVEN ROWS OF THIS SEAT. 8 by the template 'for every input the law returns true; each argument reads behind the call as it read before'; 0 by the template 'total and deterministic' (their statements: YteanlacbmiiloaaGreatDoorTotals.lean).
  GIVEN WITH THE SEED: the statements are not yours to turn. If you find one false, say at which input.
  Laid BY PROGRAM, IN A SANDBOX (cutbox-rows.mjs): the forced cells as the released guide's own fill.sh prints them over the translation 98e161847c178cba… (all of the seat's roots in one cut). By AI agents, Wed Nov 11 2026. No macro, syntax, notation, axiom, sorry.
-/
import Derived.Test.YteanlacbmiiloaaGreatDoorChecked
import GoSem.Claim
import GoSem.ClaimJoined
import GoSem.ClaimMapViews
import Derived.JoinedTies
import Derived.KernelRfl
namespace Go.Proofs.YteanlacbmiiloaaGreatDoor
/- THE CELL 'sum', in the pinned program and in every row, IS THE sha256 OF THE DUMP (.gsa) THAT YteanlacbmiiloaaGreatDoorProg.lean LOADS. Nothing in Lean hashes anything: it is a label: what it is worth is what the hold of that sum in a sandbox is worth. -/
noncomputable def Tryz.pinned : Pinned := { name := "yteanlacbmiiloaagreatdoor", sum := "98e161847c178cbab5f56483d9a1d78579ed16c3d1194e680b53931f1eeefce8", checked := Tryz.checked }
namespace Rows
def none {H : Type} : Left H := { results := [], args := [] }

/- WHAT THE LISTED PACKAGE-LEVEL VARIABLES READ AS WHEN THE CALL BEGINS. Each datum BY PROGRAM (the guide's laid-datum.mjs) off the statement by which the dump's own 'gosem.cut.vars' lays the variable. In a bare row this is a premise. The card (YteanlacbmiiloaaGreatDoorCards.lean) ties it to the program's text. -/
def laid_probecard_logic_fanins {H : Type} : DataW H := .agg [.agg [.lit (.int .i64 0), .lit (.int .i64 0)], .agg [.lit (.int .i64 0), .lit (.int .i64 0)], .agg [.lit (.int .i64 0), .lit (.int .i64 0)], .agg [.lit (.int .i64 1), .lit (.int .i64 1)], .agg [.lit (.int .i64 1), .lit (.int .i64 1)], .agg [.lit (.int .i64 2), .lit (.int .i64 16)], .agg [.lit (.int .i64 2), .lit (.int .i64 16)], .agg [.lit (.int .i64 2), .lit (.int .i64 16)], .agg [.lit (.int .i64 2), .lit (.int .i64 16)], .agg [.lit (.int .i64 2), .lit (.int .i64 16)], .agg [.lit (.int .i64 2), .lit (.int .i64 16)], .agg [.lit (.int .i64 3), .lit (.int .i64 3)], .agg [.lit (.int .i64 2), .lit (.int .i64 2)], .agg [.lit (.int .i64 1), .lit (.int .i64 16)], .agg [.lit (.int .i64 1), .lit (.int .i64 1)], .agg [.lit (.int .i64 0), .lit (.int .i64 0)]]

/-- 'probecardlaw24.ImpliesCloses': WHATEVER THE INPUT: true; the input reads as it did. -/
def impliesClosesSpec : ChangeSpec := { name := "impliesCloses", fn := fun _ => fun
  | [d1, d2, d3] => { results := [.lit (.bool true)], args := [d1, d2, d3] }
  | _ => none }
def impliesClosesRow : OpenClaim := { program := "yteanlacbmiiloaagreatdoor", sum := "98e161847c178cbab5f56483d9a1d78579ed16c3d1194e680b53931f1eeefce8", func := "probecard/probecardlaw24.ImpliesCloses", spec := "impliesCloses", inPlace := ["internal/bytealg.IndexByteString", "internal/bytealg.IndexString"], unfollowed := true, recurses := true, named := ["probecard/logic.fanins", "internal/bytealg.MaxLen"], apart := false, laid := [("probecard/logic.fanins", laid_probecard_logic_fanins)] }
def ImpliesClosesSaid : Prop := impliesClosesRow.holds Tryz.pinned (OpenSpec.ofChange impliesClosesSpec)

/-- ITS FALSE NEIGHBOUR: 'it returns false'. Refute it at one input. -/
def impliesClosesWrong : ChangeSpec := { name := "impliesCloses", fn := fun _ => fun
  | [d1, d2, d3] => { results := [.lit (.bool false)], args := [d1, d2, d3] }
  | _ => none }
def ImpliesClosesWrongFalsely : Prop := impliesClosesRow.holds Tryz.pinned (OpenSpec.ofChange impliesClosesWrong)

/-- 'probecardlaw25.LearnsStatic': WHATEVER THE INPUT: true; the input reads as it did. -/
def learnsStaticSpec : ChangeSpec := { name := "learnsStatic", fn := fun _ => fun
  | [d] => { results := [.lit (.bool true)], args := [d] }
  | _ => none }
def learnsStaticRow : OpenClaim := { program := "yteanlacbmiiloaagreatdoor", sum := "98e161847c178cbab5f56483d9a1d78579ed16c3d1194e680b53931f1eeefce8", func := "probecard/probecardlaw25.LearnsStatic", spec := "learnsStatic", inPlace := ["internal/bytealg.IndexByteString", "internal/bytealg.IndexString"], unfollowed := true, recurses := true, named := ["probecard/logic.fanins", "internal/bytealg.MaxLen"], apart := false, laid := [("probecard/logic.fanins", laid_probecard_logic_fanins)] }
def LearnsStaticSaid : Prop := learnsStaticRow.holds Tryz.pinned (OpenSpec.ofChange learnsStaticSpec)

/-- ITS FALSE NEIGHBOUR: 'it returns false'. Refute it at one input. -/
def learnsStaticWrong : ChangeSpec := { name := "learnsStatic", fn := fun _ => fun
  | [d] => { results := [.lit (.bool false)], args := [d] }
  | _ => none }
def LearnsStaticWrongFalsely : Prop := learnsStaticRow.holds Tryz.pinned (OpenSpec.ofChange learnsStaticWrong)

/-- 'probecardlaw25.LearnsSaturates': WHATEVER THE INPUT: true; the input reads as it did. -/
def learnsSaturatesSpec : ChangeSpec := { name := "learnsSaturates", fn := fun _ => fun
  | [d1, d2, d3] => { results := [.lit (.bool true)], args := [d1, d2, d3] }
  | _ => none }
def learnsSaturatesRow : OpenClaim := { program := "yteanlacbmiiloaagreatdoor", sum := "98e161847c178cbab5f56483d9a1d78579ed16c3d1194e680b53931f1eeefce8", func := "probecard/probecardlaw25.LearnsSaturates", spec := "learnsSaturates", inPlace := ["internal/bytealg.IndexByteString", "internal/bytealg.IndexString"], unfollowed := true, recurses := true, named := ["probecard/logic.fanins", "internal/bytealg.MaxLen"], apart := false, laid := [("probecard/logic.fanins", laid_probecard_logic_fanins)] }
def LearnsSaturatesSaid : Prop := learnsSaturatesRow.holds Tryz.pinned (OpenSpec.ofChange learnsSaturatesSpec)

/-- ITS FALSE NEIGHBOUR: 'it returns false'. Refute it at one input. -/
def learnsSaturatesWrong : ChangeSpec := { name := "learnsSaturates", fn := fun _ => fun
  | [d1, d2, d3] => { results := [.lit (.bool false)], args := [d1, d2, d3] }
  | _ => none }
def LearnsSaturatesWrongFalsely : Prop := learnsSaturatesRow.holds Tryz.pinned (OpenSpec.ofChange learnsSaturatesWrong)

/-- 'probecardlaw25.LearnsCloses': WHATEVER THE INPUT: true; the input reads as it did. -/
def learnsClosesSpec : ChangeSpec := { name := "learnsCloses", fn := fun _ => fun
  | [d1, d2, d3] => { results := [.lit (.bool true)], args := [d1, d2, d3] }
  | _ => none }
def learnsClosesRow : OpenClaim := { program := "yteanlacbmiiloaagreatdoor", sum := "98e161847c178cbab5f56483d9a1d78579ed16c3d1194e680b53931f1eeefce8", func := "probecard/probecardlaw25.LearnsCloses", spec := "learnsCloses", inPlace := ["internal/bytealg.IndexByteString", "internal/bytealg.IndexString"], unfollowed := true, recurses := true, named := ["probecard/logic.fanins", "internal/bytealg.MaxLen"], apart := false, laid := [("probecard/logic.fanins", laid_probecard_logic_fanins)] }
def LearnsClosesSaid : Prop := learnsClosesRow.holds Tryz.pinned (OpenSpec.ofChange learnsClosesSpec)

/-- ITS FALSE NEIGHBOUR: 'it returns false'. Refute it at one input. -/
def learnsClosesWrong : ChangeSpec := { name := "learnsCloses", fn := fun _ => fun
  | [d1, d2, d3] => { results := [.lit (.bool false)], args := [d1, d2, d3] }
  | _ => none }
def LearnsClosesWrongFalsely : Prop := learnsClosesRow.holds Tryz.pinned (OpenSpec.ofChange learnsClosesWrong)

/-- 'probecardlaw25.LearnsKnown': WHATEVER THE INPUT: true; the input reads as it did. -/
def learnsKnownSpec : ChangeSpec := { name := "learnsKnown", fn := fun _ => fun
  | [] => { results := [.lit (.bool true)], args := [] }
  | _ => none }
def learnsKnownRow : OpenClaim := { program := "yteanlacbmiiloaagreatdoor", sum := "98e161847c178cbab5f56483d9a1d78579ed16c3d1194e680b53931f1eeefce8", func := "probecard/probecardlaw25.LearnsKnown", spec := "learnsKnown", inPlace := ["internal/bytealg.IndexByteString", "internal/bytealg.IndexString"], unfollowed := true, recurses := true, named := ["probecard/logic.fanins", "internal/bytealg.MaxLen"], apart := false, laid := [("probecard/logic.fanins", laid_probecard_logic_fanins)] }
def LearnsKnownSaid : Prop := learnsKnownRow.holds Tryz.pinned (OpenSpec.ofChange learnsKnownSpec)

/-- ITS FALSE NEIGHBOUR: 'it returns false'. Refute it at one input. -/
def learnsKnownWrong : ChangeSpec := { name := "learnsKnown", fn := fun _ => fun
  | [] => { results := [.lit (.bool false)], args := [] }
  | _ => none }
def LearnsKnownWrongFalsely : Prop := learnsKnownRow.holds Tryz.pinned (OpenSpec.ofChange learnsKnownWrong)

/-- 'probecardlaw25.LearnsErrors': WHATEVER THE INPUT: true; the input reads as it did. -/
def learnsErrorsSpec : ChangeSpec := { name := "learnsErrors", fn := fun _ => fun
  | [d1, d2, d3] => { results := [.lit (.bool true)], args := [d1, d2, d3] }
  | _ => none }
def learnsErrorsRow : OpenClaim := { program := "yteanlacbmiiloaagreatdoor", sum := "98e161847c178cbab5f56483d9a1d78579ed16c3d1194e680b53931f1eeefce8", func := "probecard/probecardlaw25.LearnsErrors", spec := "learnsErrors", inPlace := ["internal/bytealg.IndexByteString", "internal/bytealg.IndexString"], unfollowed := true, recurses := true, named := ["probecard/logic.fanins", "internal/bytealg.MaxLen"], apart := false, laid := [("probecard/logic.fanins", laid_probecard_logic_fanins)] }
def LearnsErrorsSaid : Prop := learnsErrorsRow.holds Tryz.pinned (OpenSpec.ofChange learnsErrorsSpec)

/-- ITS FALSE NEIGHBOUR: 'it returns false'. Refute it at one input. -/
def learnsErrorsWrong : ChangeSpec := { name := "learnsErrors", fn := fun _ => fun
  | [d1, d2, d3] => { results := [.lit (.bool false)], args := [d1, d2, d3] }
  | _ => none }
def LearnsErrorsWrongFalsely : Prop := learnsErrorsRow.holds Tryz.pinned (OpenSpec.ofChange learnsErrorsWrong)

/-- 'probecardlaw25.LearnsSound': WHATEVER THE INPUT: true; the input reads as it did. -/
def learnsSoundSpec : ChangeSpec := { name := "learnsSound", fn := fun _ => fun
  | [d1, d2, d3] => { results := [.lit (.bool true)], args := [d1, d2, d3] }
  | _ => none }
def learnsSoundRow : OpenClaim := { program := "yteanlacbmiiloaagreatdoor", sum := "98e161847c178cbab5f56483d9a1d78579ed16c3d1194e680b53931f1eeefce8", func := "probecard/probecardlaw25.LearnsSound", spec := "learnsSound", inPlace := ["internal/bytealg.IndexByteString", "internal/bytealg.IndexString"], unfollowed := true, recurses := true, named := ["probecard/logic.fanins", "internal/bytealg.MaxLen"], apart := false, laid := [("probecard/logic.fanins", laid_probecard_logic_fanins)] }
def LearnsSoundSaid : Prop := learnsSoundRow.holds Tryz.pinned (OpenSpec.ofChange learnsSoundSpec)

/-- ITS FALSE NEIGHBOUR: 'it returns false'. Refute it at one input. -/
def learnsSoundWrong : ChangeSpec := { name := "learnsSound", fn := fun _ => fun
  | [d1, d2, d3] => { results := [.lit (.bool false)], args := [d1, d2, d3] }
  | _ => none }
def LearnsSoundWrongFalsely : Prop := learnsSoundRow.holds Tryz.pinned (OpenSpec.ofChange learnsSoundWrong)

/-- 'probecardlaw25.LearnsComplete': WHATEVER THE INPUT: true; the input reads as it did. -/
def learnsCompleteSpec : ChangeSpec := { name := "learnsComplete", fn := fun _ => fun
  | [d1, d2] => { results := [.lit (.bool true)], args := [d1, d2] }
  | _ => none }
def learnsCompleteRow : OpenClaim := { program := "yteanlacbmiiloaagreatdoor", sum := "98e161847c178cbab5f56483d9a1d78579ed16c3d1194e680b53931f1eeefce8", func := "probecard/probecardlaw25.LearnsComplete", spec := "learnsComplete", inPlace := ["internal/bytealg.IndexByteString", "internal/bytealg.IndexString"], unfollowed := true, recurses := true, named := ["probecard/logic.fanins", "internal/bytealg.MaxLen"], apart := false, laid := [("probecard/logic.fanins", laid_probecard_logic_fanins)] }
def LearnsCompleteSaid : Prop := learnsCompleteRow.holds Tryz.pinned (OpenSpec.ofChange learnsCompleteSpec)

/-- ITS FALSE NEIGHBOUR: 'it returns false'. Refute it at one input. -/
def learnsCompleteWrong : ChangeSpec := { name := "learnsComplete", fn := fun _ => fun
  | [d1, d2] => { results := [.lit (.bool false)], args := [d1, d2] }
  | _ => none }
def LearnsCompleteWrongFalsely : Prop := learnsCompleteRow.holds Tryz.pinned (OpenSpec.ofChange learnsCompleteWrong)

/- THE SECOND FORM. 'bulk': how many values and letters a reading holds, each counted each time it is reached (what is shared counts as often as it is met; a slice's spare places count too). A statement '..UptoSaid' is the law's where the arguments, and the package variables that the reading takes, are together of bulk at most 1048576: NARROWER than '..Said'. Prove '..Said' where nothing that the law and all that it calls make is longer than what came in: it says more and counts as full. Else prove '..UptoSaid'. A law counts once. -/
mutual
def uptoBulk {H : Type} : DataW H → Nat
  | .lit (.string bytes) => bytes.length + 1
  | .lit _ => 1
  | .nil => 1
  | .ptr d => uptoBulk d + 1
  | .slice elems spare => uptoBulkAll elems + uptoBulkAll spare + 1
  | .agg parts => uptoBulkAll parts + 1
  | .iface _ d => uptoBulk d + 1
  | .map entries => uptoBulkEntries entries + 1
  | .held _ => 1
def uptoBulkAll {H : Type} : List (DataW H) → Nat
  | [] => 0
  | d :: r => uptoBulk d + uptoBulkAll r
def uptoBulkEntries {H : Type} : List (Lit × DataW H) → Nat
  | [] => 0
  | x :: r => uptoBulkEntry x + uptoBulkEntries r
def uptoBulkEntry {H : Type} : Lit × DataW H → Nat
  | (.string bytes, d) => bytes.length + uptoBulk d + 1
  | (_, d) => uptoBulk d + 1
 end
def uptoSmall : (H : Type) → List (DataW H) → Bool := fun _ ds => decide (uptoBulkAll ds ≤ 1048576)
def OpenSpec.upto (s : _root_.Go.ChangeSpec) : _root_.Go.OpenSpec := { _root_.Go.OpenSpec.ofChange s with cond := some uptoSmall }

/-- 'probecardlaw24.ImpliesCloses', WHERE WHAT IT READS IS OF BULK AT MOST 1048576: true; the input reads as it did. -/
def impliesClosesUptoRow : OpenClaim := { program := "yteanlacbmiiloaagreatdoor", sum := "98e161847c178cbab5f56483d9a1d78579ed16c3d1194e680b53931f1eeefce8", func := "probecard/probecardlaw24.ImpliesCloses", spec := "impliesCloses", inPlace := ["internal/bytealg.IndexByteString", "internal/bytealg.IndexString"], unfollowed := true, recurses := true, named := ["probecard/logic.fanins", "internal/bytealg.MaxLen"], apart := false, laid := [("probecard/logic.fanins", laid_probecard_logic_fanins)], narrowed := true }
def ImpliesClosesUptoSaid : Prop := impliesClosesUptoRow.holds Tryz.pinned (OpenSpec.upto impliesClosesSpec)

/-- 'probecardlaw25.LearnsStatic', WHERE WHAT IT READS IS OF BULK AT MOST 1048576: true; the input reads as it did. -/
def learnsStaticUptoRow : OpenClaim := { program := "yteanlacbmiiloaagreatdoor", sum := "98e161847c178cbab5f56483d9a1d78579ed16c3d1194e680b53931f1eeefce8", func := "probecard/probecardlaw25.LearnsStatic", spec := "learnsStatic", inPlace := ["internal/bytealg.IndexByteString", "internal/bytealg.IndexString"], unfollowed := true, recurses := true, named := ["probecard/logic.fanins", "internal/bytealg.MaxLen"], apart := false, laid := [("probecard/logic.fanins", laid_probecard_logic_fanins)], narrowed := true }
def LearnsStaticUptoSaid : Prop := learnsStaticUptoRow.holds Tryz.pinned (OpenSpec.upto learnsStaticSpec)

/-- 'probecardlaw25.LearnsSaturates', WHERE WHAT IT READS IS OF BULK AT MOST 1048576: true; the input reads as it did. -/
def learnsSaturatesUptoRow : OpenClaim := { program := "yteanlacbmiiloaagreatdoor", sum := "98e161847c178cbab5f56483d9a1d78579ed16c3d1194e680b53931f1eeefce8", func := "probecard/probecardlaw25.LearnsSaturates", spec := "learnsSaturates", inPlace := ["internal/bytealg.IndexByteString", "internal/bytealg.IndexString"], unfollowed := true, recurses := true, named := ["probecard/logic.fanins", "internal/bytealg.MaxLen"], apart := false, laid := [("probecard/logic.fanins", laid_probecard_logic_fanins)], narrowed := true }
def LearnsSaturatesUptoSaid : Prop := learnsSaturatesUptoRow.holds Tryz.pinned (OpenSpec.upto learnsSaturatesSpec)

/-- 'probecardlaw25.LearnsCloses', WHERE WHAT IT READS IS OF BULK AT MOST 1048576: true; the input reads as it did. -/
def learnsClosesUptoRow : OpenClaim := { program := "yteanlacbmiiloaagreatdoor", sum := "98e161847c178cbab5f56483d9a1d78579ed16c3d1194e680b53931f1eeefce8", func := "probecard/probecardlaw25.LearnsCloses", spec := "learnsCloses", inPlace := ["internal/bytealg.IndexByteString", "internal/bytealg.IndexString"], unfollowed := true, recurses := true, named := ["probecard/logic.fanins", "internal/bytealg.MaxLen"], apart := false, laid := [("probecard/logic.fanins", laid_probecard_logic_fanins)], narrowed := true }
def LearnsClosesUptoSaid : Prop := learnsClosesUptoRow.holds Tryz.pinned (OpenSpec.upto learnsClosesSpec)

/-- 'probecardlaw25.LearnsKnown', WHERE WHAT IT READS IS OF BULK AT MOST 1048576: true; the input reads as it did. -/
def learnsKnownUptoRow : OpenClaim := { program := "yteanlacbmiiloaagreatdoor", sum := "98e161847c178cbab5f56483d9a1d78579ed16c3d1194e680b53931f1eeefce8", func := "probecard/probecardlaw25.LearnsKnown", spec := "learnsKnown", inPlace := ["internal/bytealg.IndexByteString", "internal/bytealg.IndexString"], unfollowed := true, recurses := true, named := ["probecard/logic.fanins", "internal/bytealg.MaxLen"], apart := false, laid := [("probecard/logic.fanins", laid_probecard_logic_fanins)], narrowed := true }
def LearnsKnownUptoSaid : Prop := learnsKnownUptoRow.holds Tryz.pinned (OpenSpec.upto learnsKnownSpec)

/-- 'probecardlaw25.LearnsErrors', WHERE WHAT IT READS IS OF BULK AT MOST 1048576: true; the input reads as it did. -/
def learnsErrorsUptoRow : OpenClaim := { program := "yteanlacbmiiloaagreatdoor", sum := "98e161847c178cbab5f56483d9a1d78579ed16c3d1194e680b53931f1eeefce8", func := "probecard/probecardlaw25.LearnsErrors", spec := "learnsErrors", inPlace := ["internal/bytealg.IndexByteString", "internal/bytealg.IndexString"], unfollowed := true, recurses := true, named := ["probecard/logic.fanins", "internal/bytealg.MaxLen"], apart := false, laid := [("probecard/logic.fanins", laid_probecard_logic_fanins)], narrowed := true }
def LearnsErrorsUptoSaid : Prop := learnsErrorsUptoRow.holds Tryz.pinned (OpenSpec.upto learnsErrorsSpec)

/-- 'probecardlaw25.LearnsSound', WHERE WHAT IT READS IS OF BULK AT MOST 1048576: true; the input reads as it did. -/
def learnsSoundUptoRow : OpenClaim := { program := "yteanlacbmiiloaagreatdoor", sum := "98e161847c178cbab5f56483d9a1d78579ed16c3d1194e680b53931f1eeefce8", func := "probecard/probecardlaw25.LearnsSound", spec := "learnsSound", inPlace := ["internal/bytealg.IndexByteString", "internal/bytealg.IndexString"], unfollowed := true, recurses := true, named := ["probecard/logic.fanins", "internal/bytealg.MaxLen"], apart := false, laid := [("probecard/logic.fanins", laid_probecard_logic_fanins)], narrowed := true }
def LearnsSoundUptoSaid : Prop := learnsSoundUptoRow.holds Tryz.pinned (OpenSpec.upto learnsSoundSpec)

/-- 'probecardlaw25.LearnsComplete', WHERE WHAT IT READS IS OF BULK AT MOST 1048576: true; the input reads as it did. -/
def learnsCompleteUptoRow : OpenClaim := { program := "yteanlacbmiiloaagreatdoor", sum := "98e161847c178cbab5f56483d9a1d78579ed16c3d1194e680b53931f1eeefce8", func := "probecard/probecardlaw25.LearnsComplete", spec := "learnsComplete", inPlace := ["internal/bytealg.IndexByteString", "internal/bytealg.IndexString"], unfollowed := true, recurses := true, named := ["probecard/logic.fanins", "internal/bytealg.MaxLen"], apart := false, laid := [("probecard/logic.fanins", laid_probecard_logic_fanins)], narrowed := true }
def LearnsCompleteUptoSaid : Prop := learnsCompleteUptoRow.holds Tryz.pinned (OpenSpec.upto learnsCompleteSpec)

end Rows
end Go.Proofs.YteanlacbmiiloaaGreatDoor
