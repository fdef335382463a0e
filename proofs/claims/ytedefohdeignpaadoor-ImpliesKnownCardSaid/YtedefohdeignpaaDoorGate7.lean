/-
  The law package: gates.
-/
import Derived.Test.YtedefohdeignpaaDoorGate6
namespace Go.Proofs.YtedefohdeignpaaDoor
open Go.Abs
set_option maxRecDepth 100000

def nGate (k b : Nat) : Nat := if k = 1 ∨ k = 2 then 0 else if k = 3 ∨ k = 4 then 1 else if k = 11 then 3 else 2 + b % 4

theorem u8_wide (n : Nat) (h : n < 256) : IntKind.i64.wrap (Int.ofNat n) = Int.ofNat n := IntWalk.i64_in _ (by simp only [Int.ofNat_eq_natCast]; omega)

theorem gates_ok {k b : Nat} (hk : k < 256) {h : Heap} : CallD Tryd.prog NG 9 #[u8 (Int.ofNat k), u8 (Int.ofNat b)] h (.tuple #[u8 (Int.ofNat (k % 11 + 1)), .int .i64 (Int.ofNat (nGate (k % 11 + 1) b))]) h := by
  refine fnP hM Tryd.func9 rfl (hP _ _ rfl Tryd.func9) (Nat.le_of_ble_eq_true rfl) (by kernel_rfl) ?_; ((conv => whnf); repeat ((first | refine CodeS.step ?_ | refine RegS.step ?_ | refine RegXS.step ?_); (conv => whnf)))
  (first | refine ⟨_, _, buildK (vs := [u8 1, u8 2, u8 3, u8 4, u8 5, u8 6, u8 7, u8 8, u8 9, u8 10, u8 11]) (s := 1) (z := u8 0) rfl rfl (by kernel_rfl) (by kernel_rfl) rfl rfl rfl rfl (by intro v hv; simp only [List.mem_cons, List.not_mem_nil, or_false] at hv; rcases hv with rfl | rfl | rfl | rfl | rfl | rfl | rfl | rfl | rfl | rfl | rfl <;> rfl), fun h1 n1 => ?_⟩ | refine NewG.obj (buildK (vs := [u8 1, u8 2, u8 3, u8 4, u8 5, u8 6, u8 7, u8 8, u8 9, u8 10, u8 11]) (s := 1) (z := u8 0) rfl rfl (by kernel_rfl) (by kernel_rfl) rfl rfl rfl rfl (by intro v hv; simp only [List.mem_cons, List.not_mem_nil, or_false] at hv; rcases hv with rfl | rfl | rfl | rfl | rfl | rfl | rfl | rfl | rfl | rfl | rfl <;> rfl)) fun h1 n1 => ?_); ((conv => whnf); repeat ((first | refine CodeS.step ?_ | refine RegS.step ?_ | refine RegXS.step ?_); (conv => whnf)))
  refine ⟨_, convIntK rfl rfl rfl (u8_wide k hk), ?_⟩; ((conv => whnf); repeat ((first | refine CodeS.step ?_ | refine RegS.step ?_ | refine RegXS.step ?_); (conv => whnf)))
  refine ⟨_, remK (b := 11) rfl rfl (by decide), ?_⟩; ((conv => whnf); repeat ((first | refine CodeS.step ?_ | refine RegS.step ?_ | refine RegXS.step ?_); (conv => whnf)))
  have hr : k % 11 < 11 := Nat.mod_lt _ (by decide)
  generalize k % 11 = r at hr ⊢
  refine indexK rfl rfl rfl rfl hr ?_
  ((conv => whnf); repeat ((first | refine CodeS.step ?_ | refine RegS.step ?_ | refine RegXS.step ?_); (conv => whnf)))
  have hr' : r = 0 ∨ r = 1 ∨ r = 2 ∨ r = 3 ∨ r = 4 ∨ r = 5 ∨ r = 6 ∨ r = 7 ∨ r = 8 ∨ r = 9 ∨ r = 10 := by omega
  rcases hr' with rfl | rfl | rfl | rfl | rfl | rfl | rfl | rfl | rfl | rfl | rfl
  all_goals
    refine ⟨_, loadK rfl n1.get rfl rfl, ?_⟩; ((conv => whnf); repeat ((first | refine CodeS.step ?_ | refine RegS.step ?_ | refine RegXS.step ?_); (conv => whnf)))
    repeat (first | refine ⟨true, rfl, fun _ => ?_, (fun hc => nomatch hc)⟩; ((conv => whnf); repeat ((first | refine CodeS.step ?_ | refine RegS.step ?_ | refine RegXS.step ?_); (conv => whnf))) | refine ⟨false, rfl, (fun hc => nomatch hc), fun _ => ?_⟩; ((conv => whnf); repeat ((first | refine CodeS.step ?_ | refine RegS.step ?_ | refine RegXS.step ?_); (conv => whnf))))
    first
      | exact ⟨rfl, n1.ext⟩
      | (refine ⟨_, remK (b := 4) rfl rfl (by decide), ?_⟩; ((conv => whnf); repeat ((first | refine CodeS.step ?_ | refine RegS.step ?_ | refine RegXS.step ?_); (conv => whnf)))
         refine ⟨_, convIntK rfl rfl rfl (u8_wide (b % 4) (by omega)), ?_⟩; ((conv => whnf); repeat ((first | refine CodeS.step ?_ | refine RegS.step ?_ | refine RegXS.step ?_); (conv => whnf)))
         refine ⟨_, addK (a := 2) rfl rfl (by omega), ?_⟩; ((conv => whnf); repeat ((first | refine CodeS.step ?_ | refine RegS.step ?_ | refine RegXS.step ?_); (conv => whnf)))
         exact ⟨rfl, n1.ext⟩)
end Go.Proofs.YtedefohdeignpaaDoor
