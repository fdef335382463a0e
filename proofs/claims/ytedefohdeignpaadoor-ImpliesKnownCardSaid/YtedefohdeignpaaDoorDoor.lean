/-
  This program's rows: the start of a call, off the row's conditions.
-/
import Derived.Test.YtedefohdeignpaaDoorBase
import Derived.Test.YtedefohdeignpaaDoorAbsYf
import Derived.Test.YtedefohdeignpaaDoorAbsXp
import Derived.Test.YtedefohdeignpaaDoorLogic3
import Derived.Test.YtedefohdeignpaaDoorTie
import Derived.LaidMore
import Derived.Stop.Joined
import Derived.ChangeAt
import Derived.SevenTiedAt
namespace Go.Proofs.YtedefohdeignpaaDoor
open Go.Abs Go.ChangeShapes Go.RowKit Go.ChangeAt
set_option maxRecDepth 100000

theorem own : ownKnob Tryd.prog.godebug = none := by kernel_rfl
theorem laidOut : laidOutB Tryd.prog = true := by kernel_rfl
def laid : List (String × DataW Unit) := [("probecard/logic.fanins", Rows.laid_probecard_logic_fanins)]
theorem gFanins : Tryd.prog.globalNamed "probecard/logic.fanins" = some 0 := by kernel_rfl

/-- The door's own heap meets the condition. -/
theorem door_met (os : Os) (args : Array Value) : laidMetH Tryd.prog laid ((World.doorLaid Tryd.prog 400 os).forCall (fun _ _ => 0) ⟨#[], args, []⟩).memory :=
  laidMetH_of_parts3 (fuel := 8) (laidMet_of_run' 8 (by kernel_rfl) (by kernel_rfl)) (by kernel_rfl) (by kernel_rfl)

theorem arrFanins : arrB Tryd.prog 5 (((Tryd.prog.globals[0]?).map (·.type)).getD 0) = true := by kernel_rfl
theorem flatFanins : flat (H := Unit) Rows.laid_probecard_logic_fanins = some fanins := by kernel_rfl

theorem of_laid {W : World} (h : laidMetH Tryd.prog laid W) (i : Nat) : W.cell? ⟨0, i, none⟩ = fanins[i]? := by
  rw [MakeChecks.laidMetH_plain _ _ _ (by kernel_rfl)] at h
  obtain ⟨ps, ⟨g0, t0, cs0, f0, p0, q0, hg0, ht0, hv0, hd0, _⟩, _, _⟩ := h
  have ht : t0 = (((Tryd.prog.globals[0]?).map (·.type)).getD 0) := by
    obtain rfl := Option.some.inj (gFanins.symm.trans hg0)
    rw [ht0]; rfl
  subst ht
  obtain rfl := Option.some.inj (gFanins.symm.trans hg0)
  exact laid_cells hg0 hv0 hd0 arrFanins flatFanins i

theorem block {W : World} (h : W.ShapedOpen Tryd.prog) (g : Nat) (hg : g < Tryd.prog.globals.size) (hb : (((begin Tryd.prog (fun _ _ => 0) default).world.heap[g]?).bind Obj.row?).isSome = true) : ∃ C ty fr, W.heap[g]? = some (.cells C ty fr) := by
  obtain ⟨⟨zero, t⟩, e⟩ := Option.isSome_iff_exists.1 hb
  obtain ⟨cs, h1, _⟩ := h.1 g zero t hg e
  exact ⟨cs, t, _, h1⟩

/-- THE START: the program's variables. -/
theorem start {W : World} (hsh : W.ShapedOpen Tryd.prog) (hl : laidMetH Tryd.prog laid W) : ∃ l0 l1 : Abs.Loc, HRel 2 (startInj [l0, l1] W) (heapOf vars) W := by
  obtain ⟨C0, ty0, fr0, h0⟩ := block hsh 0 (of_decide_eq_true (by kernel_rfl)) (by kernel_rfl)
  obtain ⟨C1, ty1, fr1, h1⟩ := block hsh 1 (of_decide_eq_true (by kernel_rfl)) (by kernel_rfl)
  have lt : ∀ (g : Nat) (C : Array Value) (ty : TypeId) (fr : Nat × Nat), W.heap[g]? = some (.cells C ty fr) → g < W.heap.size := fun g C ty fr e => (Array.getElem?_eq_some_iff.1 e).1
  refine ⟨⟨0, 0, C0.size⟩, ⟨1, 0, C1.size⟩, HRel.start vars [_, _] rfl ?_ ?_ ?_ ?_⟩
  · intro g hg
    match g, hg with
    | 0, _ => exact ⟨_, rfl, rfl, rfl⟩
    | 1, _ => exact ⟨_, rfl, rfl, rfl⟩
  · intro l hl
    simp only [List.mem_cons, List.not_mem_nil, or_false] at hl
    rcases hl with rfl | rfl
    · exact lt _ _ _ _ h0
    · exact lt _ _ _ _ h1
  · intro g l o e1 e2
    match g, e1, e2 with
    | 0, e1, e2 =>
      simp only [List.getElem?_cons_zero, Option.some.injEq] at e1
      simp only [vars, List.getElem?_cons_zero, Option.some.injEq] at e2
      subst e1 e2
      exact ORel.of_cells h0 (fun i _ => of_laid hl i) (by kernel_rfl)
    | 1, e1, e2 =>
      simp only [vars, List.getElem?_cons_zero, List.getElem?_cons_succ, Option.some.injEq] at e2
      subst e2
      trivial
    | g + 2, e1, e2 => simp at e1
  · intro o ho
    simp only [vars, List.mem_cons, List.not_mem_nil, or_false] at ho
    rcases ho with rfl | rfl <;> rfl

/-- A LAW's CALL, off what is said of it as a function of values. -/
theorem law_run {H : Type} {enc : TypeId × Value → H} {f : FuncId} {fn : Func} {c : Code} {d : Nat} (L : List (Sh × Bool)) (hfn : Tryd.prog.funcs[f]? = some fn) (hb : fn.body = some c) (hp : paramsOk Tryd.prog d fn.params.toList L)
    (call : ∀ x : DenL L, wfL L x → FnV Tryd.prog NG vars f ⟨argL L x⟩ (.bool true))
    (W : World) (base : Nat) (args : Array Value) (hsh : W.ShapedOpen Tryd.prog) (_ : args.size = fn.params.size)
    (hval : ∀ (j : Nat) t v, fn.params[j]? = some t → args[j]? = some v → Value.okWide Tryd.prog W .any base t v) (hl : laidMetH Tryd.prog laid W)
    (hA : ∃ (ds : List (DataW H)) (p : List MemPlace), DataW.TrodAll enc Tryd.prog W 0 (fun _ => true) true fn.params.toList args.toList ds p) :
    Calls Tryd.prog f args W fun e W' => e = .returned (.bool true) ∧ Below W.heap.size W W' := by
  obtain ⟨ds, p, hA⟩ := hA
  obtain ⟨l0, l1, H⟩ := start hsh hl
  obtain ⟨x, hw, r⟩ := args_vals (ι := startInj [l0, l1] W) (fun b C ty fr e => by simp only [startInj, e]) fn.params.toList L hp args.toList ds p hA (fun j t v e1 e2 => hval j t v (by simpa using e1) (by simpa using e2))
  refine run_of_call hfn hb ((call x hw).call _ fun i o e => by rw [heapOf_get]; exact e) rfl H ?_ ?_
  · intro o ho
    simp only [vars, List.mem_cons, List.not_mem_nil, or_false] at ho
    rcases ho with rfl | rfl <;> rfl
  · have := LRel.array r
    simpa using this

theorem u8_range {n : Int} (h : (Lit.int .u8 n).wf = true) : 0 ≤ n ∧ n < 256 := by
  simp [Lit.wf, IntKind.min, IntKind.max, IntKind.signed, IntKind.bits] at h
  omega
end Go.Proofs.YtedefohdeignpaaDoor
