/-
  'LogicOrder': every three values: each is 0, 1, 2, 3, or above 3; the interpreter answers each case in the kernel.
-/
import Derived.Test.YtbfgncmnallhlaaDoorBase
namespace Go.Proofs.YtbfgncmnallhlaaDoor
open Go.Abs
set_option maxRecDepth 100000

def cls5 (n : Nat) : List Int := [0, 1, 2, 3, Int.ofNat (n + 4)]
theorem cls5_mem {a : Int} (h : 0 ≤ a) : ∃ n, a ∈ cls5 n := by
  obtain ⟨m, rfl⟩ := Int.eq_ofNat_of_zero_le h
  match m with
  | 0 => exact ⟨0, by simp [cls5]⟩
  | 1 => exact ⟨0, by simp [cls5]⟩
  | 2 => exact ⟨0, by simp [cls5]⟩
  | 3 => exact ⟨0, by simp [cls5]⟩
  | n + 4 => exact ⟨n, by simp [cls5]⟩

noncomputable def order3 (a b c : Int) : Bool := isTrue (runFn Tryd.prog [] orc 60 3 #[.agg #[.int .u8 a, .int .u8 b, .int .u8 c]] (heapOf vars))
theorem order0 (m k : Nat) : ((cls5 m).all fun b => (cls5 k).all fun c => order3 0 b c) = true := by kernel_rfl
theorem order1 (m k : Nat) : ((cls5 m).all fun b => (cls5 k).all fun c => order3 1 b c) = true := by kernel_rfl
theorem order2 (m k : Nat) : ((cls5 m).all fun b => (cls5 k).all fun c => order3 2 b c) = true := by kernel_rfl
theorem order3' (m k : Nat) : ((cls5 m).all fun b => (cls5 k).all fun c => order3 3 b c) = true := by kernel_rfl
theorem order4 (n m k : Nat) : ((cls5 m).all fun b => (cls5 k).all fun c => order3 (Int.ofNat (n + 4)) b c) = true := by kernel_rfl

theorem order_all (a b c : Int) (ha : 0 ≤ a) (hb : 0 ≤ b) (hc : 0 ≤ c) : order3 a b c = true := by
  obtain ⟨n, ha⟩ := cls5_mem ha
  obtain ⟨m, hb⟩ := cls5_mem hb
  obtain ⟨k, hc⟩ := cls5_mem hc
  have key : ((cls5 m).all fun b => (cls5 k).all fun c => order3 a b c) = true := by
    simp only [cls5, List.mem_cons, List.not_mem_nil, or_false] at ha
    rcases ha with rfl | rfl | rfl | rfl | rfl
    · exact order0 m k
    · exact order1 m k
    · exact order2 m k
    · exact order3' m k
    · exact order4 n m k
  exact List.all_eq_true.1 (List.all_eq_true.1 key b hb) c hc

end Go.Proofs.YtbfgncmnallhlaaDoor
