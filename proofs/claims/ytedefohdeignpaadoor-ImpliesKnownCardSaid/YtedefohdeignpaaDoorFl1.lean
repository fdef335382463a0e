/-
  This program's functions of values: what the contracts over heaps say of them.
-/
import Derived.Test.YtedefohdeignpaaDoorAbsXp
import Derived.Test.YtedefohdeignpaaDoorGate7
import Derived.Test.YtedefohdeignpaaDoorLives24
namespace Go.Proofs.YtedefohdeignpaaDoor
open Go.Abs
set_option maxRecDepth 100000

theorem fzVars : ∀ o ∈ vars, o.fz = o := by
  intro o m
  simp only [vars, List.mem_cons, List.not_mem_nil, or_false] at m
  rcases m with rfl | rfl <;> rfl

theorem hasVars {h : Heap} (b : HasB vars h) : Vars h := b 0 _ rfl
theorem hasSize {h : Heap} (b : HasB vars h) : NG ≤ h.size := Heap.lt_of_get (b 1 _ rfl)

/-- A contract over heaps, of plain values. -/
theorem fn_of {f : FuncId} {vs : Array Value} {r : Value} (hr : flatB r = true) (c : ∀ h, Vars h → CallD Tryd.prog NG f vs h r h) : FnV Tryd.prog NG vars f vs r := ⟨PureV.flatB hr, fun h b => c h (hasVars b)⟩

theorem pure_vals (l : List Int) : PureV (FL 1 (vals l)) := PureV.ints

/-- What Gate returns. -/
def gateVal : Option (Int × List Int) → Value
  | none => .tuple #[u8 0, .slice none 0 0, .bool false]
  | some (o, l) => .tuple #[u8 o, FL 1 (vals l), .bool true]

theorem gate_fn {k o : Int} {l : List Int} (hk : 0 ≤ k) (hk2 : k < 256) (ho : 0 ≤ o) (hl : ∀ x ∈ l, 0 ≤ x) (hn : l.length ≤ 16) : FnV Tryd.prog NG vars 11 #[u8 k, u8 o, FL 1 (vals l)] (gateVal (gateL k o l)) := by
  have hp : PureV (gateVal (gateL k o l)) := by
    cases gateL k o l with
    | none => exact PureV.flatB rfl
    | some q => exact PureV.tup (AllPure.cons (PureV.flat rfl) (AllPure.cons (pure_vals _) (AllPure.cons (PureV.flat rfl) AllPure.nil)))
  refine ⟨hp, fun h b => ?_⟩
  obtain ⟨v, h', c, E, R⟩ := gate_ok hk hk2 (hasVars b) ho hl hn
  refine c.values E hp (fun h2 F => ?_) (by kernel_rfl)
  generalize gateL k o l = g at R
  cases g with
  | none =>
    have R : v = _ := R
    rw [R]
    exact VLe.refl _ _
  | some q =>
    obtain ⟨gi, h1, h2, h3⟩ := R
    rw [h2]
    refine VLe.tup (LLe.cons (VLe.refl _ _) (LLe.cons (VLe.fl (F.at h1 h3) (vals_len _).symm (fun e m => ?_) (by rw [vals_len]; omega) ?_) (LLe.cons (VLe.refl _ _) (LLe.nil _))))
    · obtain ⟨a, _, rfl⟩ := List.mem_map.1 m
      rfl
    · rw [flatC_vals, List.drop_zero, ← vals_len, Nat.mul_one, List.take_length]
      exact LLe.refl _ _

theorem gates_fn {k b : Nat} (hk : k < 256) : FnV Tryd.prog NG vars 9 #[u8 (Int.ofNat k), u8 (Int.ofNat b)] (.tuple #[u8 (Int.ofNat (k % 11 + 1)), .int .i64 (Int.ofNat (nGate (k % 11 + 1) b))]) := fn_of rfl fun _ _ => gates_ok hk
end Go.Proofs.YtedefohdeignpaaDoor
