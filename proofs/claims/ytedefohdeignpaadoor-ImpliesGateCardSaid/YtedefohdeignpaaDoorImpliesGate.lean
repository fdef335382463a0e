/-
  ImpliesGate, off its arguments.
-/
import Derived.Test.YtedefohdeignpaaDoorGate9
import Derived.Test.YtedefohdeignpaaDoorDoor
namespace Go.Proofs.YtedefohdeignpaaDoor
open Go.Abs
set_option maxRecDepth 100000

def impliesGate_sh : List (Sh × Bool) := [(.int .u8, false), (.int .u8, false), (.slice (.int .u8), false)]

theorem nat_of {a : Int} (h : 0 ≤ a) : ∃ n : Nat, a = Int.ofNat n := ⟨a.toNat, by simp; omega⟩

theorem impliesGate_call (x : DenL impliesGate_sh) (w : wfL impliesGate_sh x) : FnV Tryd.prog NG vars 3 ⟨argL impliesGate_sh x⟩ (.bool true) := by
  obtain ⟨k, n, vs, u⟩ := x
  obtain ⟨w1, w2, w3, _⟩ := w
  have h1 := u8_range w1
  have h2 := u8_range w2
  obtain ⟨k, rfl⟩ := nat_of h1.1
  obtain ⟨n, rfl⟩ := nat_of h2.1
  exact implies_gate (by have := h1.2; simp only [Int.ofNat_eq_natCast] at this; omega) (fun y hy => u8_range (w3.2 y hy))
end Go.Proofs.YtedefohdeignpaaDoor
