/-
  NARROWER THAN 'FOR EVERY INPUT', by the rows' own cells (each row's printed sentence says how): LogicOrder: laid · PairsEval: laid · PairsTexts: laid · PairsFive: laid · PairsMonotone: laid · PairsJoin: laid · PairsOrder: laid · PairsDiffer: laid.
  DERIVED. THE GIVEN ROWS OF THIS SEAT. 8 by the template 'for every input the law returns true; each argument reads behind the call as it read before'; 0 by the template 'total and deterministic' (their statements: YtbfgncmnallhlaaDoorTotals.lean).
  GIVEN WITH THE SEED: the statements are not yours to turn. If you find one false, say at which input.
  Laid BY PROGRAM, IN A SANDBOX (cutbox-rows.mjs): the forced cells as the released guide's own fill.sh prints them over the translation e2125e7a4d0e3c45… (all of the seat's roots in one cut). By AI agents, Wed Nov 11 2026. No macro, syntax, notation, axiom, sorry.
-/
import Derived.Test.YtbfgncmnallhlaaDoorChecked
import GoSem.Claim
import GoSem.ClaimJoined
import GoSem.ClaimMapViews
import Derived.JoinedTies
import Derived.KernelRfl
namespace Go.Proofs.YtbfgncmnallhlaaDoor
/- THE CELL 'sum', in the pinned program and in every row, IS THE sha256 OF THE DUMP (.gsa) THAT YtbfgncmnallhlaaDoorProg.lean LOADS. Nothing in Lean hashes anything: it is a label: what it is worth is what the hold of that sum in a sandbox is worth. -/
noncomputable def Tryd.pinned : Pinned := { name := "ytbfgncmnallhlaadoor", sum := "e2125e7a4d0e3c4565259d1719f9c2110c1a64361ca652a7b37934da8bd3dd00", checked := Tryd.checked }
namespace Rows
def none {H : Type} : Left H := { results := [], args := [] }

/- WHAT THE LISTED PACKAGE-LEVEL VARIABLES READ AS WHEN THE CALL BEGINS. Each datum BY PROGRAM (the guide's laid-datum.mjs) off the statement by which the dump's own 'gosem.cut.vars' lays the variable. In a bare row this is a premise. The card (YtbfgncmnallhlaaDoorCards.lean) ties it to the program's text. -/
def laid_probecard_logic_fanins {H : Type} : DataW H := .agg [.agg [.lit (.int .i64 0), .lit (.int .i64 0)], .agg [.lit (.int .i64 0), .lit (.int .i64 0)], .agg [.lit (.int .i64 0), .lit (.int .i64 0)], .agg [.lit (.int .i64 1), .lit (.int .i64 1)], .agg [.lit (.int .i64 1), .lit (.int .i64 1)], .agg [.lit (.int .i64 2), .lit (.int .i64 16)], .agg [.lit (.int .i64 2), .lit (.int .i64 16)], .agg [.lit (.int .i64 2), .lit (.int .i64 16)], .agg [.lit (.int .i64 2), .lit (.int .i64 16)], .agg [.lit (.int .i64 2), .lit (.int .i64 16)], .agg [.lit (.int .i64 2), .lit (.int .i64 16)], .agg [.lit (.int .i64 3), .lit (.int .i64 3)], .agg [.lit (.int .i64 2), .lit (.int .i64 2)], .agg [.lit (.int .i64 1), .lit (.int .i64 16)], .agg [.lit (.int .i64 1), .lit (.int .i64 1)], .agg [.lit (.int .i64 0), .lit (.int .i64 0)]]

/-- 'probecardlaw01.LogicOrder': WHATEVER THE INPUT: true; the input reads as it did. -/
def logicOrderSpec : ChangeSpec := { name := "logicOrder", fn := fun _ => fun
  | [d] => { results := [.lit (.bool true)], args := [d] }
  | _ => none }
def logicOrderRow : OpenClaim := { program := "ytbfgncmnallhlaadoor", sum := "e2125e7a4d0e3c4565259d1719f9c2110c1a64361ca652a7b37934da8bd3dd00", func := "probecard/probecardlaw01.LogicOrder", spec := "logicOrder", inPlace := ["internal/bytealg.IndexByteString"], unfollowed := true, recurses := true, named := ["probecard/logic.fanins"], apart := false, laid := [("probecard/logic.fanins", laid_probecard_logic_fanins)] }
def LogicOrderSaid : Prop := logicOrderRow.holds Tryd.pinned (OpenSpec.ofChange logicOrderSpec)

/-- ITS FALSE NEIGHBOUR: 'it returns false'. Refute it at one input. -/
def logicOrderWrong : ChangeSpec := { name := "logicOrder", fn := fun _ => fun
  | [d] => { results := [.lit (.bool false)], args := [d] }
  | _ => none }
def LogicOrderWrongFalsely : Prop := logicOrderRow.holds Tryd.pinned (OpenSpec.ofChange logicOrderWrong)

/-- 'probecardlaw02.PairsEval': WHATEVER THE INPUT: true; the input reads as it did. -/
def pairsEvalSpec : ChangeSpec := { name := "pairsEval", fn := fun _ => fun
  | [d1, d2] => { results := [.lit (.bool true)], args := [d1, d2] }
  | _ => none }
def pairsEvalRow : OpenClaim := { program := "ytbfgncmnallhlaadoor", sum := "e2125e7a4d0e3c4565259d1719f9c2110c1a64361ca652a7b37934da8bd3dd00", func := "probecard/probecardlaw02.PairsEval", spec := "pairsEval", unfollowed := true, recurses := true, named := ["probecard/logic.fanins"], apart := false, laid := [("probecard/logic.fanins", laid_probecard_logic_fanins)] }
def PairsEvalSaid : Prop := pairsEvalRow.holds Tryd.pinned (OpenSpec.ofChange pairsEvalSpec)

/-- ITS FALSE NEIGHBOUR: 'it returns false'. Refute it at one input. -/
def pairsEvalWrong : ChangeSpec := { name := "pairsEval", fn := fun _ => fun
  | [d1, d2] => { results := [.lit (.bool false)], args := [d1, d2] }
  | _ => none }
def PairsEvalWrongFalsely : Prop := pairsEvalRow.holds Tryd.pinned (OpenSpec.ofChange pairsEvalWrong)

/-- 'probecardlaw02.PairsTexts': WHATEVER THE INPUT: true; the input reads as it did. -/
def pairsTextsSpec : ChangeSpec := { name := "pairsTexts", fn := fun _ => fun
  | [d1, d2, d3] => { results := [.lit (.bool true)], args := [d1, d2, d3] }
  | _ => none }
def pairsTextsRow : OpenClaim := { program := "ytbfgncmnallhlaadoor", sum := "e2125e7a4d0e3c4565259d1719f9c2110c1a64361ca652a7b37934da8bd3dd00", func := "probecard/probecardlaw02.PairsTexts", spec := "pairsTexts", unfollowed := true, recurses := true, named := ["probecard/logic.fanins"], apart := false, laid := [("probecard/logic.fanins", laid_probecard_logic_fanins)] }
def PairsTextsSaid : Prop := pairsTextsRow.holds Tryd.pinned (OpenSpec.ofChange pairsTextsSpec)

/-- ITS FALSE NEIGHBOUR: 'it returns false'. Refute it at one input. -/
def pairsTextsWrong : ChangeSpec := { name := "pairsTexts", fn := fun _ => fun
  | [d1, d2, d3] => { results := [.lit (.bool false)], args := [d1, d2, d3] }
  | _ => none }
def PairsTextsWrongFalsely : Prop := pairsTextsRow.holds Tryd.pinned (OpenSpec.ofChange pairsTextsWrong)

/-- 'probecardlaw02.PairsFive': WHATEVER THE INPUT: true; the input reads as it did. -/
def pairsFiveSpec : ChangeSpec := { name := "pairsFive", fn := fun _ => fun
  | [d1, d2] => { results := [.lit (.bool true)], args := [d1, d2] }
  | _ => none }
def pairsFiveRow : OpenClaim := { program := "ytbfgncmnallhlaadoor", sum := "e2125e7a4d0e3c4565259d1719f9c2110c1a64361ca652a7b37934da8bd3dd00", func := "probecard/probecardlaw02.PairsFive", spec := "pairsFive", unfollowed := true, recurses := true, named := ["probecard/logic.fanins"], apart := false, laid := [("probecard/logic.fanins", laid_probecard_logic_fanins)] }
def PairsFiveSaid : Prop := pairsFiveRow.holds Tryd.pinned (OpenSpec.ofChange pairsFiveSpec)

/-- ITS FALSE NEIGHBOUR: 'it returns false'. Refute it at one input. -/
def pairsFiveWrong : ChangeSpec := { name := "pairsFive", fn := fun _ => fun
  | [d1, d2] => { results := [.lit (.bool false)], args := [d1, d2] }
  | _ => none }
def PairsFiveWrongFalsely : Prop := pairsFiveRow.holds Tryd.pinned (OpenSpec.ofChange pairsFiveWrong)

/-- 'probecardlaw02.PairsMonotone': WHATEVER THE INPUT: true; the input reads as it did. -/
def pairsMonotoneSpec : ChangeSpec := { name := "pairsMonotone", fn := fun _ => fun
  | [d1, d2, d3] => { results := [.lit (.bool true)], args := [d1, d2, d3] }
  | _ => none }
def pairsMonotoneRow : OpenClaim := { program := "ytbfgncmnallhlaadoor", sum := "e2125e7a4d0e3c4565259d1719f9c2110c1a64361ca652a7b37934da8bd3dd00", func := "probecard/probecardlaw02.PairsMonotone", spec := "pairsMonotone", unfollowed := true, recurses := true, named := ["probecard/logic.fanins"], apart := false, laid := [("probecard/logic.fanins", laid_probecard_logic_fanins)] }
def PairsMonotoneSaid : Prop := pairsMonotoneRow.holds Tryd.pinned (OpenSpec.ofChange pairsMonotoneSpec)

/-- ITS FALSE NEIGHBOUR: 'it returns false'. Refute it at one input. -/
def pairsMonotoneWrong : ChangeSpec := { name := "pairsMonotone", fn := fun _ => fun
  | [d1, d2, d3] => { results := [.lit (.bool false)], args := [d1, d2, d3] }
  | _ => none }
def PairsMonotoneWrongFalsely : Prop := pairsMonotoneRow.holds Tryd.pinned (OpenSpec.ofChange pairsMonotoneWrong)

/-- 'probecardlaw02.PairsJoin': WHATEVER THE INPUT: true; the input reads as it did. -/
def pairsJoinSpec : ChangeSpec := { name := "pairsJoin", fn := fun _ => fun
  | [d] => { results := [.lit (.bool true)], args := [d] }
  | _ => none }
def pairsJoinRow : OpenClaim := { program := "ytbfgncmnallhlaadoor", sum := "e2125e7a4d0e3c4565259d1719f9c2110c1a64361ca652a7b37934da8bd3dd00", func := "probecard/probecardlaw02.PairsJoin", spec := "pairsJoin", unfollowed := true, recurses := true, named := ["probecard/logic.fanins"], apart := false, laid := [("probecard/logic.fanins", laid_probecard_logic_fanins)] }
def PairsJoinSaid : Prop := pairsJoinRow.holds Tryd.pinned (OpenSpec.ofChange pairsJoinSpec)

/-- ITS FALSE NEIGHBOUR: 'it returns false'. Refute it at one input. -/
def pairsJoinWrong : ChangeSpec := { name := "pairsJoin", fn := fun _ => fun
  | [d] => { results := [.lit (.bool false)], args := [d] }
  | _ => none }
def PairsJoinWrongFalsely : Prop := pairsJoinRow.holds Tryd.pinned (OpenSpec.ofChange pairsJoinWrong)

/-- 'probecardlaw02.PairsOrder': WHATEVER THE INPUT: true; the input reads as it did. -/
def pairsOrderSpec : ChangeSpec := { name := "pairsOrder", fn := fun _ => fun
  | [d1, d2] => { results := [.lit (.bool true)], args := [d1, d2] }
  | _ => none }
def pairsOrderRow : OpenClaim := { program := "ytbfgncmnallhlaadoor", sum := "e2125e7a4d0e3c4565259d1719f9c2110c1a64361ca652a7b37934da8bd3dd00", func := "probecard/probecardlaw02.PairsOrder", spec := "pairsOrder", unfollowed := true, recurses := true, named := ["probecard/logic.fanins"], apart := false, laid := [("probecard/logic.fanins", laid_probecard_logic_fanins)] }
def PairsOrderSaid : Prop := pairsOrderRow.holds Tryd.pinned (OpenSpec.ofChange pairsOrderSpec)

/-- ITS FALSE NEIGHBOUR: 'it returns false'. Refute it at one input. -/
def pairsOrderWrong : ChangeSpec := { name := "pairsOrder", fn := fun _ => fun
  | [d1, d2] => { results := [.lit (.bool false)], args := [d1, d2] }
  | _ => none }
def PairsOrderWrongFalsely : Prop := pairsOrderRow.holds Tryd.pinned (OpenSpec.ofChange pairsOrderWrong)

/-- 'probecardlaw02.PairsDiffer': WHATEVER THE INPUT: true; the input reads as it did. -/
def pairsDifferSpec : ChangeSpec := { name := "pairsDiffer", fn := fun _ => fun
  | [d1, d2, d3] => { results := [.lit (.bool true)], args := [d1, d2, d3] }
  | _ => none }
def pairsDifferRow : OpenClaim := { program := "ytbfgncmnallhlaadoor", sum := "e2125e7a4d0e3c4565259d1719f9c2110c1a64361ca652a7b37934da8bd3dd00", func := "probecard/probecardlaw02.PairsDiffer", spec := "pairsDiffer", unfollowed := true, recurses := true, named := ["probecard/logic.fanins"], apart := false, laid := [("probecard/logic.fanins", laid_probecard_logic_fanins)] }
def PairsDifferSaid : Prop := pairsDifferRow.holds Tryd.pinned (OpenSpec.ofChange pairsDifferSpec)

/-- ITS FALSE NEIGHBOUR: 'it returns false'. Refute it at one input. -/
def pairsDifferWrong : ChangeSpec := { name := "pairsDiffer", fn := fun _ => fun
  | [d1, d2, d3] => { results := [.lit (.bool false)], args := [d1, d2, d3] }
  | _ => none }
def PairsDifferWrongFalsely : Prop := pairsDifferRow.holds Tryd.pinned (OpenSpec.ofChange pairsDifferWrong)

/- THE SECOND FORM. 'bulk': how many values and letters a reading holds, each counted each time it is reached (what is shared counts as often as it is met; a slice's spare places count too). A statement '..UptoSaid' is the law's where the arguments, and the package variables that the reading takes, are together of bulk at most 1048576: NARROWER than '..Said'. Prove '..Said' where nothing that the law and all that it calls make is longer than what came in: it says more and counts as full. Else prove '..UptoSaid'. A law counts once. -/
mutual
def uptoBulk {H : Type} : DataW H → Nat
  | .lit (.string bytes) => bytes.length + 1
  | .lit _ => 1
  | .nil => 1
  | .ptr d => uptoBulk d + 1
  | .slice elems spare => uptoBulkAll elems + uptoBulkAll spare + 1
  | .agg parts => uptoBulkAll parts + 1
  | .iface _ d => uptoBulk d + 1
  | .map entries => uptoBulkEntries entries + 1
  | .held _ => 1
def uptoBulkAll {H : Type} : List (DataW H) → Nat
  | [] => 0
  | d :: r => uptoBulk d + uptoBulkAll r
def uptoBulkEntries {H : Type} : List (Lit × DataW H) → Nat
  | [] => 0
  | x :: r => uptoBulkEntry x + uptoBulkEntries r
def uptoBulkEntry {H : Type} : Lit × DataW H → Nat
  | (.string bytes, d) => bytes.length + uptoBulk d + 1
  | (_, d) => uptoBulk d + 1
 end
def uptoSmall : (H : Type) → List (DataW H) → Bool := fun _ ds => decide (uptoBulkAll ds ≤ 1048576)
def OpenSpec.upto (s : _root_.Go.ChangeSpec) : _root_.Go.OpenSpec := { _root_.Go.OpenSpec.ofChange s with cond := some uptoSmall }

/-- 'probecardlaw01.LogicOrder', WHERE WHAT IT READS IS OF BULK AT MOST 1048576: true; the input reads as it did. -/
def logicOrderUptoRow : OpenClaim := { program := "ytbfgncmnallhlaadoor", sum := "e2125e7a4d0e3c4565259d1719f9c2110c1a64361ca652a7b37934da8bd3dd00", func := "probecard/probecardlaw01.LogicOrder", spec := "logicOrder", inPlace := ["internal/bytealg.IndexByteString"], unfollowed := true, recurses := true, named := ["probecard/logic.fanins"], apart := false, laid := [("probecard/logic.fanins", laid_probecard_logic_fanins)], narrowed := true }
def LogicOrderUptoSaid : Prop := logicOrderUptoRow.holds Tryd.pinned (OpenSpec.upto logicOrderSpec)

/-- 'probecardlaw02.PairsEval', WHERE WHAT IT READS IS OF BULK AT MOST 1048576: true; the input reads as it did. -/
def pairsEvalUptoRow : OpenClaim := { program := "ytbfgncmnallhlaadoor", sum := "e2125e7a4d0e3c4565259d1719f9c2110c1a64361ca652a7b37934da8bd3dd00", func := "probecard/probecardlaw02.PairsEval", spec := "pairsEval", unfollowed := true, recurses := true, named := ["probecard/logic.fanins"], apart := false, laid := [("probecard/logic.fanins", laid_probecard_logic_fanins)], narrowed := true }
def PairsEvalUptoSaid : Prop := pairsEvalUptoRow.holds Tryd.pinned (OpenSpec.upto pairsEvalSpec)

/-- 'probecardlaw02.PairsTexts', WHERE WHAT IT READS IS OF BULK AT MOST 1048576: true; the input reads as it did. -/
def pairsTextsUptoRow : OpenClaim := { program := "ytbfgncmnallhlaadoor", sum := "e2125e7a4d0e3c4565259d1719f9c2110c1a64361ca652a7b37934da8bd3dd00", func := "probecard/probecardlaw02.PairsTexts", spec := "pairsTexts", unfollowed := true, recurses := true, named := ["probecard/logic.fanins"], apart := false, laid := [("probecard/logic.fanins", laid_probecard_logic_fanins)], narrowed := true }
def PairsTextsUptoSaid : Prop := pairsTextsUptoRow.holds Tryd.pinned (OpenSpec.upto pairsTextsSpec)

/-- 'probecardlaw02.PairsFive', WHERE WHAT IT READS IS OF BULK AT MOST 1048576: true; the input reads as it did. -/
def pairsFiveUptoRow : OpenClaim := { program := "ytbfgncmnallhlaadoor", sum := "e2125e7a4d0e3c4565259d1719f9c2110c1a64361ca652a7b37934da8bd3dd00", func := "probecard/probecardlaw02.PairsFive", spec := "pairsFive", unfollowed := true, recurses := true, named := ["probecard/logic.fanins"], apart := false, laid := [("probecard/logic.fanins", laid_probecard_logic_fanins)], narrowed := true }
def PairsFiveUptoSaid : Prop := pairsFiveUptoRow.holds Tryd.pinned (OpenSpec.upto pairsFiveSpec)

/-- 'probecardlaw02.PairsMonotone', WHERE WHAT IT READS IS OF BULK AT MOST 1048576: true; the input reads as it did. -/
def pairsMonotoneUptoRow : OpenClaim := { program := "ytbfgncmnallhlaadoor", sum := "e2125e7a4d0e3c4565259d1719f9c2110c1a64361ca652a7b37934da8bd3dd00", func := "probecard/probecardlaw02.PairsMonotone", spec := "pairsMonotone", unfollowed := true, recurses := true, named := ["probecard/logic.fanins"], apart := false, laid := [("probecard/logic.fanins", laid_probecard_logic_fanins)], narrowed := true }
def PairsMonotoneUptoSaid : Prop := pairsMonotoneUptoRow.holds Tryd.pinned (OpenSpec.upto pairsMonotoneSpec)

/-- 'probecardlaw02.PairsJoin', WHERE WHAT IT READS IS OF BULK AT MOST 1048576: true; the input reads as it did. -/
def pairsJoinUptoRow : OpenClaim := { program := "ytbfgncmnallhlaadoor", sum := "e2125e7a4d0e3c4565259d1719f9c2110c1a64361ca652a7b37934da8bd3dd00", func := "probecard/probecardlaw02.PairsJoin", spec := "pairsJoin", unfollowed := true, recurses := true, named := ["probecard/logic.fanins"], apart := false, laid := [("probecard/logic.fanins", laid_probecard_logic_fanins)], narrowed := true }
def PairsJoinUptoSaid : Prop := pairsJoinUptoRow.holds Tryd.pinned (OpenSpec.upto pairsJoinSpec)

/-- 'probecardlaw02.PairsOrder', WHERE WHAT IT READS IS OF BULK AT MOST 1048576: true; the input reads as it did. -/
def pairsOrderUptoRow : OpenClaim := { program := "ytbfgncmnallhlaadoor", sum := "e2125e7a4d0e3c4565259d1719f9c2110c1a64361ca652a7b37934da8bd3dd00", func := "probecard/probecardlaw02.PairsOrder", spec := "pairsOrder", unfollowed := true, recurses := true, named := ["probecard/logic.fanins"], apart := false, laid := [("probecard/logic.fanins", laid_probecard_logic_fanins)], narrowed := true }
def PairsOrderUptoSaid : Prop := pairsOrderUptoRow.holds Tryd.pinned (OpenSpec.upto pairsOrderSpec)

/-- 'probecardlaw02.PairsDiffer', WHERE WHAT IT READS IS OF BULK AT MOST 1048576: true; the input reads as it did. -/
def pairsDifferUptoRow : OpenClaim := { program := "ytbfgncmnallhlaadoor", sum := "e2125e7a4d0e3c4565259d1719f9c2110c1a64361ca652a7b37934da8bd3dd00", func := "probecard/probecardlaw02.PairsDiffer", spec := "pairsDiffer", unfollowed := true, recurses := true, named := ["probecard/logic.fanins"], apart := false, laid := [("probecard/logic.fanins", laid_probecard_logic_fanins)], narrowed := true }
def PairsDifferUptoSaid : Prop := pairsDifferUptoRow.holds Tryd.pinned (OpenSpec.upto pairsDifferSpec)

end Rows
end Go.Proofs.YtbfgncmnallhlaaDoor
