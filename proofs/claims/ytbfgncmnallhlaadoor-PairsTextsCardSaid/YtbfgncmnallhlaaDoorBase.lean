/-
  This program: what is asked of its text holds; its variables; 'lives' of each law package.
-/
import Derived.Test.YtbfgncmnallhlaaDoorAbsU
import Derived.Test.YtbfgncmnallhlaaDoorProg
import Derived.KernelRfl
namespace Go.Proofs.YtbfgncmnallhlaaDoor
open Go.Abs
set_option maxRecDepth 100000

/-- How many variables the program has. -/
abbrev NG : Nat := 2
def u8 (a : Int) : Value := .int .u8 a

theorem hM : Tryd.prog.follows .mixedOrders = true := by kernel_rfl
theorem allOk : Tryd.prog.funcs.toList.all (funcOk 2) = true := by kernel_rfl
theorem hP (f : FuncId) (fn : Func) (_ : ([] : List FuncId).contains f = false) (h : Tryd.prog.funcs[f]? = some fn) : funcOk 2 fn = true := by
  have := List.all_eq_true.1 allOk fn (by
    have := Array.mem_of_getElem? h
    simpa using this)
  exact this

def i2 (a b : Int) : List Value := [.int .i64 a, .int .i64 b]
def fanins : List Value := i2 0 0 ++ i2 0 0 ++ i2 0 0 ++ i2 1 1 ++ i2 1 1 ++ i2 2 16 ++ i2 2 16 ++ i2 2 16 ++ i2 2 16 ++ i2 2 16 ++ i2 2 16 ++ i2 3 3 ++ i2 2 2 ++ i2 1 16 ++ i2 1 1 ++ i2 0 0
/-- The program's variables. -/
def vars : List AObj := [.cells fanins true, .dead]

def isTrue : Option (Value × Heap) → Bool
  | some (.bool true, _) => true
  | _ => false
theorem isTrue_iff {x : Option (Value × Heap)} (h : isTrue x = true) : ∃ h', x = some (.bool true, h') := by
  unfold isTrue at h
  split at h
  · exact ⟨_, rfl⟩
  · cases h

theorem lives1 : isTrue (runFn Tryd.prog [] (orcExt Tryd.prog) 60 15 #[] (heapOf vars)) = true := by kernel_rfl
theorem lives2 : isTrue (runFn Tryd.prog [] (orcExt Tryd.prog) 60 16 #[] (heapOf vars)) = true := by kernel_rfl

noncomputable def orc : FuncId → Array Value → Heap → Option Value :=
  orcOr (orcExt Tryd.prog) (orcClosed vars [(15, .bool true), (16, .bool true)])

theorem orc_sound (f : FuncId) (vs : Array Value) (h : Heap) (v : Value) (e : orc f vs h = some v) : CallD Tryd.prog 2 f vs h v h := by
  refine orcOr_sound (N := 2) (fun f vs h v e => orcExt_sound f vs h v e) (fun f vs h v e => orcClosed_sound (l := vars) ?_ f vs h v e) f vs h v e
  intro p hp
  simp only [List.mem_cons, List.not_mem_nil, or_false] at hp
  rcases hp with rfl | rfl
  · obtain ⟨h', e⟩ := isTrue_iff lives1
    exact ⟨rfl, h', (runFn_sound hM hP (fun f vs h v e => orcExt_sound f vs h v e) 60 _ _ _ _ _ e).1⟩
  · obtain ⟨h', e⟩ := isTrue_iff lives2
    exact ⟨rfl, h', (runFn_sound hM hP (fun f vs h v e => orcExt_sound f vs h v e) 60 _ _ _ _ _ e).1⟩

/-- The interpreter answers true: so does the program. -/
theorem runs {f : FuncId} {vs : Array Value} {h : Heap} {n : Nat} (e : isTrue (runFn Tryd.prog [] orc n f vs h) = true) : ∃ h', CallD Tryd.prog 2 f vs h (.bool true) h' := by
  obtain ⟨h', e⟩ := isTrue_iff e
  exact ⟨h', (runFn_sound hM hP orc_sound n _ _ _ _ _ e).1⟩
end Go.Proofs.YtbfgncmnallhlaaDoor
