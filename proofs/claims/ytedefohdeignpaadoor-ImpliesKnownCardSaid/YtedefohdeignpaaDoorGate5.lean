/-
  The package 'implies': the choice of the method.
-/
import Derived.Test.YtedefohdeignpaaDoorGate4
namespace Go.Proofs.YtedefohdeignpaaDoor
open Go.Abs
set_option maxRecDepth 100000

def methodF (k : Int) : Value :=
  if k = 1 ∨ k = 2 ∨ k = 3 ∨ k = 4 ∨ k = 11 then .func (.func 56) #[] #[]
  else if k = 5 ∨ k = 6 ∨ k = 7 ∨ k = 8 then .func (.func 57) #[] #[]
  else if k = 9 ∨ k = 10 then .func (.func 58) #[] #[]
  else .nilFunc
def methodB (k : Int) : Bool := decide (1 ≤ k ∧ k ≤ 11)

theorem of_ok {k : Int} (hk : 0 ≤ k) {h : Heap} : ∃ h', CallD Tryd.prog NG 34 #[u8 k] h (.tuple #[.agg #[methodF k], .bool (methodB k)]) h' ∧ Ext h h' := by
  suffices q : ∃ v h', CallD Tryd.prog NG 34 #[u8 k] h v h' ∧ (v = .tuple #[.agg #[methodF k], .bool (methodB k)] ∧ Ext h h') by
    obtain ⟨v, h', q1, rfl, q2⟩ := q
    exact ⟨h', q1, q2⟩
  rcases kinds hk with rfl | rfl | rfl | rfl | rfl | rfl | rfl | rfl | rfl | rfl | rfl | rfl | rfl | rfl | rfl | rfl | ⟨n, rfl⟩
  · refine fnG hM Tryd.func34 rfl (hP _ _ rfl Tryd.func34) (Nat.le_of_ble_eq_true rfl) ?_; ((conv => whnf); repeat ((first | refine CodeS.step ?_ | refine RegS.step ?_ | refine RegXS.step ?_); (conv => whnf)))
    (first | refine ⟨_, _, anew_alloc (z := .agg #[.nilFunc]) (by kernel_rfl) rfl rfl, fun h1 n1 => ?_⟩ | refine NewG.obj (anew_alloc (z := .agg #[.nilFunc]) (by kernel_rfl) rfl rfl) fun h1 n1 => ?_)
    ((conv => whnf); repeat ((first | refine CodeS.step ?_ | refine RegS.step ?_ | refine RegXS.step ?_); (conv => whnf)))
    repeat (first | refine ⟨true, rfl, fun _ => ?_, (fun hc => nomatch hc)⟩; ((conv => whnf); repeat ((first | refine CodeS.step ?_ | refine RegS.step ?_ | refine RegXS.step ?_); (conv => whnf))) | refine ⟨false, rfl, (fun hc => nomatch hc), fun _ => ?_⟩; ((conv => whnf); repeat ((first | refine CodeS.step ?_ | refine RegS.step ?_ | refine RegXS.step ?_); (conv => whnf))))
    skip
    refine storeK rfl n1.get rfl rfl rfl (Nat.le_of_ble_eq_true rfl) rfl fun h2 u2 => ?_; ((conv => whnf); repeat ((first | refine CodeS.step ?_ | refine RegS.step ?_ | refine RegXS.step ?_); (conv => whnf)))
    refine ⟨_, resAggK rfl rfl u2.get rfl rfl (Nat.le_of_ble_eq_true rfl) rfl, ?_⟩; ((conv => whnf); repeat ((first | refine CodeS.step ?_ | refine RegS.step ?_ | refine RegXS.step ?_); (conv => whnf)))
    exact ⟨rfl, u2.ext n1.ext (Nat.le_refl _)⟩
  · refine fnG hM Tryd.func34 rfl (hP _ _ rfl Tryd.func34) (Nat.le_of_ble_eq_true rfl) ?_; ((conv => whnf); repeat ((first | refine CodeS.step ?_ | refine RegS.step ?_ | refine RegXS.step ?_); (conv => whnf)))
    (first | refine ⟨_, _, anew_alloc (z := .agg #[.nilFunc]) (by kernel_rfl) rfl rfl, fun h1 n1 => ?_⟩ | refine NewG.obj (anew_alloc (z := .agg #[.nilFunc]) (by kernel_rfl) rfl rfl) fun h1 n1 => ?_)
    ((conv => whnf); repeat ((first | refine CodeS.step ?_ | refine RegS.step ?_ | refine RegXS.step ?_); (conv => whnf)))
    repeat (first | refine ⟨true, rfl, fun _ => ?_, (fun hc => nomatch hc)⟩; ((conv => whnf); repeat ((first | refine CodeS.step ?_ | refine RegS.step ?_ | refine RegXS.step ?_); (conv => whnf))) | refine ⟨false, rfl, (fun hc => nomatch hc), fun _ => ?_⟩; ((conv => whnf); repeat ((first | refine CodeS.step ?_ | refine RegS.step ?_ | refine RegXS.step ?_); (conv => whnf))))
    skip
    refine storeK rfl n1.get rfl rfl rfl (Nat.le_of_ble_eq_true rfl) rfl fun h2 u2 => ?_; ((conv => whnf); repeat ((first | refine CodeS.step ?_ | refine RegS.step ?_ | refine RegXS.step ?_); (conv => whnf)))
    refine ⟨_, resAggK rfl rfl u2.get rfl rfl (Nat.le_of_ble_eq_true rfl) rfl, ?_⟩; ((conv => whnf); repeat ((first | refine CodeS.step ?_ | refine RegS.step ?_ | refine RegXS.step ?_); (conv => whnf)))
    exact ⟨rfl, u2.ext n1.ext (Nat.le_refl _)⟩
  · refine fnG hM Tryd.func34 rfl (hP _ _ rfl Tryd.func34) (Nat.le_of_ble_eq_true rfl) ?_; ((conv => whnf); repeat ((first | refine CodeS.step ?_ | refine RegS.step ?_ | refine RegXS.step ?_); (conv => whnf)))
    (first | refine ⟨_, _, anew_alloc (z := .agg #[.nilFunc]) (by kernel_rfl) rfl rfl, fun h1 n1 => ?_⟩ | refine NewG.obj (anew_alloc (z := .agg #[.nilFunc]) (by kernel_rfl) rfl rfl) fun h1 n1 => ?_)
    ((conv => whnf); repeat ((first | refine CodeS.step ?_ | refine RegS.step ?_ | refine RegXS.step ?_); (conv => whnf)))
    repeat (first | refine ⟨true, rfl, fun _ => ?_, (fun hc => nomatch hc)⟩; ((conv => whnf); repeat ((first | refine CodeS.step ?_ | refine RegS.step ?_ | refine RegXS.step ?_); (conv => whnf))) | refine ⟨false, rfl, (fun hc => nomatch hc), fun _ => ?_⟩; ((conv => whnf); repeat ((first | refine CodeS.step ?_ | refine RegS.step ?_ | refine RegXS.step ?_); (conv => whnf))))
    skip
    refine storeK rfl n1.get rfl rfl rfl (Nat.le_of_ble_eq_true rfl) rfl fun h2 u2 => ?_; ((conv => whnf); repeat ((first | refine CodeS.step ?_ | refine RegS.step ?_ | refine RegXS.step ?_); (conv => whnf)))
    refine ⟨_, resAggK rfl rfl u2.get rfl rfl (Nat.le_of_ble_eq_true rfl) rfl, ?_⟩; ((conv => whnf); repeat ((first | refine CodeS.step ?_ | refine RegS.step ?_ | refine RegXS.step ?_); (conv => whnf)))
    exact ⟨rfl, u2.ext n1.ext (Nat.le_refl _)⟩
  · refine fnG hM Tryd.func34 rfl (hP _ _ rfl Tryd.func34) (Nat.le_of_ble_eq_true rfl) ?_; ((conv => whnf); repeat ((first | refine CodeS.step ?_ | refine RegS.step ?_ | refine RegXS.step ?_); (conv => whnf)))
    (first | refine ⟨_, _, anew_alloc (z := .agg #[.nilFunc]) (by kernel_rfl) rfl rfl, fun h1 n1 => ?_⟩ | refine NewG.obj (anew_alloc (z := .agg #[.nilFunc]) (by kernel_rfl) rfl rfl) fun h1 n1 => ?_)
    ((conv => whnf); repeat ((first | refine CodeS.step ?_ | refine RegS.step ?_ | refine RegXS.step ?_); (conv => whnf)))
    repeat (first | refine ⟨true, rfl, fun _ => ?_, (fun hc => nomatch hc)⟩; ((conv => whnf); repeat ((first | refine CodeS.step ?_ | refine RegS.step ?_ | refine RegXS.step ?_); (conv => whnf))) | refine ⟨false, rfl, (fun hc => nomatch hc), fun _ => ?_⟩; ((conv => whnf); repeat ((first | refine CodeS.step ?_ | refine RegS.step ?_ | refine RegXS.step ?_); (conv => whnf))))
    skip
    refine storeK rfl n1.get rfl rfl rfl (Nat.le_of_ble_eq_true rfl) rfl fun h2 u2 => ?_; ((conv => whnf); repeat ((first | refine CodeS.step ?_ | refine RegS.step ?_ | refine RegXS.step ?_); (conv => whnf)))
    refine ⟨_, resAggK rfl rfl u2.get rfl rfl (Nat.le_of_ble_eq_true rfl) rfl, ?_⟩; ((conv => whnf); repeat ((first | refine CodeS.step ?_ | refine RegS.step ?_ | refine RegXS.step ?_); (conv => whnf)))
    exact ⟨rfl, u2.ext n1.ext (Nat.le_refl _)⟩
  · refine fnG hM Tryd.func34 rfl (hP _ _ rfl Tryd.func34) (Nat.le_of_ble_eq_true rfl) ?_; ((conv => whnf); repeat ((first | refine CodeS.step ?_ | refine RegS.step ?_ | refine RegXS.step ?_); (conv => whnf)))
    (first | refine ⟨_, _, anew_alloc (z := .agg #[.nilFunc]) (by kernel_rfl) rfl rfl, fun h1 n1 => ?_⟩ | refine NewG.obj (anew_alloc (z := .agg #[.nilFunc]) (by kernel_rfl) rfl rfl) fun h1 n1 => ?_)
    ((conv => whnf); repeat ((first | refine CodeS.step ?_ | refine RegS.step ?_ | refine RegXS.step ?_); (conv => whnf)))
    repeat (first | refine ⟨true, rfl, fun _ => ?_, (fun hc => nomatch hc)⟩; ((conv => whnf); repeat ((first | refine CodeS.step ?_ | refine RegS.step ?_ | refine RegXS.step ?_); (conv => whnf))) | refine ⟨false, rfl, (fun hc => nomatch hc), fun _ => ?_⟩; ((conv => whnf); repeat ((first | refine CodeS.step ?_ | refine RegS.step ?_ | refine RegXS.step ?_); (conv => whnf))))
    skip
    refine storeK rfl n1.get rfl rfl rfl (Nat.le_of_ble_eq_true rfl) rfl fun h2 u2 => ?_; ((conv => whnf); repeat ((first | refine CodeS.step ?_ | refine RegS.step ?_ | refine RegXS.step ?_); (conv => whnf)))
    refine ⟨_, resAggK rfl rfl u2.get rfl rfl (Nat.le_of_ble_eq_true rfl) rfl, ?_⟩; ((conv => whnf); repeat ((first | refine CodeS.step ?_ | refine RegS.step ?_ | refine RegXS.step ?_); (conv => whnf)))
    exact ⟨rfl, u2.ext n1.ext (Nat.le_refl _)⟩
  · refine fnG hM Tryd.func34 rfl (hP _ _ rfl Tryd.func34) (Nat.le_of_ble_eq_true rfl) ?_; ((conv => whnf); repeat ((first | refine CodeS.step ?_ | refine RegS.step ?_ | refine RegXS.step ?_); (conv => whnf)))
    (first | refine ⟨_, _, anew_alloc (z := .agg #[.nilFunc]) (by kernel_rfl) rfl rfl, fun h1 n1 => ?_⟩ | refine NewG.obj (anew_alloc (z := .agg #[.nilFunc]) (by kernel_rfl) rfl rfl) fun h1 n1 => ?_)
    ((conv => whnf); repeat ((first | refine CodeS.step ?_ | refine RegS.step ?_ | refine RegXS.step ?_); (conv => whnf)))
    repeat (first | refine ⟨true, rfl, fun _ => ?_, (fun hc => nomatch hc)⟩; ((conv => whnf); repeat ((first | refine CodeS.step ?_ | refine RegS.step ?_ | refine RegXS.step ?_); (conv => whnf))) | refine ⟨false, rfl, (fun hc => nomatch hc), fun _ => ?_⟩; ((conv => whnf); repeat ((first | refine CodeS.step ?_ | refine RegS.step ?_ | refine RegXS.step ?_); (conv => whnf))))
    skip
    refine storeK rfl n1.get rfl rfl rfl (Nat.le_of_ble_eq_true rfl) rfl fun h2 u2 => ?_; ((conv => whnf); repeat ((first | refine CodeS.step ?_ | refine RegS.step ?_ | refine RegXS.step ?_); (conv => whnf)))
    refine ⟨_, resAggK rfl rfl u2.get rfl rfl (Nat.le_of_ble_eq_true rfl) rfl, ?_⟩; ((conv => whnf); repeat ((first | refine CodeS.step ?_ | refine RegS.step ?_ | refine RegXS.step ?_); (conv => whnf)))
    exact ⟨rfl, u2.ext n1.ext (Nat.le_refl _)⟩
  · refine fnG hM Tryd.func34 rfl (hP _ _ rfl Tryd.func34) (Nat.le_of_ble_eq_true rfl) ?_; ((conv => whnf); repeat ((first | refine CodeS.step ?_ | refine RegS.step ?_ | refine RegXS.step ?_); (conv => whnf)))
    (first | refine ⟨_, _, anew_alloc (z := .agg #[.nilFunc]) (by kernel_rfl) rfl rfl, fun h1 n1 => ?_⟩ | refine NewG.obj (anew_alloc (z := .agg #[.nilFunc]) (by kernel_rfl) rfl rfl) fun h1 n1 => ?_)
    ((conv => whnf); repeat ((first | refine CodeS.step ?_ | refine RegS.step ?_ | refine RegXS.step ?_); (conv => whnf)))
    repeat (first | refine ⟨true, rfl, fun _ => ?_, (fun hc => nomatch hc)⟩; ((conv => whnf); repeat ((first | refine CodeS.step ?_ | refine RegS.step ?_ | refine RegXS.step ?_); (conv => whnf))) | refine ⟨false, rfl, (fun hc => nomatch hc), fun _ => ?_⟩; ((conv => whnf); repeat ((first | refine CodeS.step ?_ | refine RegS.step ?_ | refine RegXS.step ?_); (conv => whnf))))
    skip
    refine storeK rfl n1.get rfl rfl rfl (Nat.le_of_ble_eq_true rfl) rfl fun h2 u2 => ?_; ((conv => whnf); repeat ((first | refine CodeS.step ?_ | refine RegS.step ?_ | refine RegXS.step ?_); (conv => whnf)))
    refine ⟨_, resAggK rfl rfl u2.get rfl rfl (Nat.le_of_ble_eq_true rfl) rfl, ?_⟩; ((conv => whnf); repeat ((first | refine CodeS.step ?_ | refine RegS.step ?_ | refine RegXS.step ?_); (conv => whnf)))
    exact ⟨rfl, u2.ext n1.ext (Nat.le_refl _)⟩
  · refine fnG hM Tryd.func34 rfl (hP _ _ rfl Tryd.func34) (Nat.le_of_ble_eq_true rfl) ?_; ((conv => whnf); repeat ((first | refine CodeS.step ?_ | refine RegS.step ?_ | refine RegXS.step ?_); (conv => whnf)))
    (first | refine ⟨_, _, anew_alloc (z := .agg #[.nilFunc]) (by kernel_rfl) rfl rfl, fun h1 n1 => ?_⟩ | refine NewG.obj (anew_alloc (z := .agg #[.nilFunc]) (by kernel_rfl) rfl rfl) fun h1 n1 => ?_)
    ((conv => whnf); repeat ((first | refine CodeS.step ?_ | refine RegS.step ?_ | refine RegXS.step ?_); (conv => whnf)))
    repeat (first | refine ⟨true, rfl, fun _ => ?_, (fun hc => nomatch hc)⟩; ((conv => whnf); repeat ((first | refine CodeS.step ?_ | refine RegS.step ?_ | refine RegXS.step ?_); (conv => whnf))) | refine ⟨false, rfl, (fun hc => nomatch hc), fun _ => ?_⟩; ((conv => whnf); repeat ((first | refine CodeS.step ?_ | refine RegS.step ?_ | refine RegXS.step ?_); (conv => whnf))))
    skip
    refine storeK rfl n1.get rfl rfl rfl (Nat.le_of_ble_eq_true rfl) rfl fun h2 u2 => ?_; ((conv => whnf); repeat ((first | refine CodeS.step ?_ | refine RegS.step ?_ | refine RegXS.step ?_); (conv => whnf)))
    refine ⟨_, resAggK rfl rfl u2.get rfl rfl (Nat.le_of_ble_eq_true rfl) rfl, ?_⟩; ((conv => whnf); repeat ((first | refine CodeS.step ?_ | refine RegS.step ?_ | refine RegXS.step ?_); (conv => whnf)))
    exact ⟨rfl, u2.ext n1.ext (Nat.le_refl _)⟩
  · refine fnG hM Tryd.func34 rfl (hP _ _ rfl Tryd.func34) (Nat.le_of_ble_eq_true rfl) ?_; ((conv => whnf); repeat ((first | refine CodeS.step ?_ | refine RegS.step ?_ | refine RegXS.step ?_); (conv => whnf)))
    (first | refine ⟨_, _, anew_alloc (z := .agg #[.nilFunc]) (by kernel_rfl) rfl rfl, fun h1 n1 => ?_⟩ | refine NewG.obj (anew_alloc (z := .agg #[.nilFunc]) (by kernel_rfl) rfl rfl) fun h1 n1 => ?_)
    ((conv => whnf); repeat ((first | refine CodeS.step ?_ | refine RegS.step ?_ | refine RegXS.step ?_); (conv => whnf)))
    repeat (first | refine ⟨true, rfl, fun _ => ?_, (fun hc => nomatch hc)⟩; ((conv => whnf); repeat ((first | refine CodeS.step ?_ | refine RegS.step ?_ | refine RegXS.step ?_); (conv => whnf))) | refine ⟨false, rfl, (fun hc => nomatch hc), fun _ => ?_⟩; ((conv => whnf); repeat ((first | refine CodeS.step ?_ | refine RegS.step ?_ | refine RegXS.step ?_); (conv => whnf))))
    skip
    refine storeK rfl n1.get rfl rfl rfl (Nat.le_of_ble_eq_true rfl) rfl fun h2 u2 => ?_; ((conv => whnf); repeat ((first | refine CodeS.step ?_ | refine RegS.step ?_ | refine RegXS.step ?_); (conv => whnf)))
    refine ⟨_, resAggK rfl rfl u2.get rfl rfl (Nat.le_of_ble_eq_true rfl) rfl, ?_⟩; ((conv => whnf); repeat ((first | refine CodeS.step ?_ | refine RegS.step ?_ | refine RegXS.step ?_); (conv => whnf)))
    exact ⟨rfl, u2.ext n1.ext (Nat.le_refl _)⟩
  · refine fnG hM Tryd.func34 rfl (hP _ _ rfl Tryd.func34) (Nat.le_of_ble_eq_true rfl) ?_; ((conv => whnf); repeat ((first | refine CodeS.step ?_ | refine RegS.step ?_ | refine RegXS.step ?_); (conv => whnf)))
    (first | refine ⟨_, _, anew_alloc (z := .agg #[.nilFunc]) (by kernel_rfl) rfl rfl, fun h1 n1 => ?_⟩ | refine NewG.obj (anew_alloc (z := .agg #[.nilFunc]) (by kernel_rfl) rfl rfl) fun h1 n1 => ?_)
    ((conv => whnf); repeat ((first | refine CodeS.step ?_ | refine RegS.step ?_ | refine RegXS.step ?_); (conv => whnf)))
    repeat (first | refine ⟨true, rfl, fun _ => ?_, (fun hc => nomatch hc)⟩; ((conv => whnf); repeat ((first | refine CodeS.step ?_ | refine RegS.step ?_ | refine RegXS.step ?_); (conv => whnf))) | refine ⟨false, rfl, (fun hc => nomatch hc), fun _ => ?_⟩; ((conv => whnf); repeat ((first | refine CodeS.step ?_ | refine RegS.step ?_ | refine RegXS.step ?_); (conv => whnf))))
    skip
    refine storeK rfl n1.get rfl rfl rfl (Nat.le_of_ble_eq_true rfl) rfl fun h2 u2 => ?_; ((conv => whnf); repeat ((first | refine CodeS.step ?_ | refine RegS.step ?_ | refine RegXS.step ?_); (conv => whnf)))
    refine ⟨_, resAggK rfl rfl u2.get rfl rfl (Nat.le_of_ble_eq_true rfl) rfl, ?_⟩; ((conv => whnf); repeat ((first | refine CodeS.step ?_ | refine RegS.step ?_ | refine RegXS.step ?_); (conv => whnf)))
    exact ⟨rfl, u2.ext n1.ext (Nat.le_refl _)⟩
  · refine fnG hM Tryd.func34 rfl (hP _ _ rfl Tryd.func34) (Nat.le_of_ble_eq_true rfl) ?_; ((conv => whnf); repeat ((first | refine CodeS.step ?_ | refine RegS.step ?_ | refine RegXS.step ?_); (conv => whnf)))
    (first | refine ⟨_, _, anew_alloc (z := .agg #[.nilFunc]) (by kernel_rfl) rfl rfl, fun h1 n1 => ?_⟩ | refine NewG.obj (anew_alloc (z := .agg #[.nilFunc]) (by kernel_rfl) rfl rfl) fun h1 n1 => ?_)
    ((conv => whnf); repeat ((first | refine CodeS.step ?_ | refine RegS.step ?_ | refine RegXS.step ?_); (conv => whnf)))
    repeat (first | refine ⟨true, rfl, fun _ => ?_, (fun hc => nomatch hc)⟩; ((conv => whnf); repeat ((first | refine CodeS.step ?_ | refine RegS.step ?_ | refine RegXS.step ?_); (conv => whnf))) | refine ⟨false, rfl, (fun hc => nomatch hc), fun _ => ?_⟩; ((conv => whnf); repeat ((first | refine CodeS.step ?_ | refine RegS.step ?_ | refine RegXS.step ?_); (conv => whnf))))
    skip
    refine storeK rfl n1.get rfl rfl rfl (Nat.le_of_ble_eq_true rfl) rfl fun h2 u2 => ?_; ((conv => whnf); repeat ((first | refine CodeS.step ?_ | refine RegS.step ?_ | refine RegXS.step ?_); (conv => whnf)))
    refine ⟨_, resAggK rfl rfl u2.get rfl rfl (Nat.le_of_ble_eq_true rfl) rfl, ?_⟩; ((conv => whnf); repeat ((first | refine CodeS.step ?_ | refine RegS.step ?_ | refine RegXS.step ?_); (conv => whnf)))
    exact ⟨rfl, u2.ext n1.ext (Nat.le_refl _)⟩
  · refine fnG hM Tryd.func34 rfl (hP _ _ rfl Tryd.func34) (Nat.le_of_ble_eq_true rfl) ?_; ((conv => whnf); repeat ((first | refine CodeS.step ?_ | refine RegS.step ?_ | refine RegXS.step ?_); (conv => whnf)))
    (first | refine ⟨_, _, anew_alloc (z := .agg #[.nilFunc]) (by kernel_rfl) rfl rfl, fun h1 n1 => ?_⟩ | refine NewG.obj (anew_alloc (z := .agg #[.nilFunc]) (by kernel_rfl) rfl rfl) fun h1 n1 => ?_)
    ((conv => whnf); repeat ((first | refine CodeS.step ?_ | refine RegS.step ?_ | refine RegXS.step ?_); (conv => whnf)))
    repeat (first | refine ⟨true, rfl, fun _ => ?_, (fun hc => nomatch hc)⟩; ((conv => whnf); repeat ((first | refine CodeS.step ?_ | refine RegS.step ?_ | refine RegXS.step ?_); (conv => whnf))) | refine ⟨false, rfl, (fun hc => nomatch hc), fun _ => ?_⟩; ((conv => whnf); repeat ((first | refine CodeS.step ?_ | refine RegS.step ?_ | refine RegXS.step ?_); (conv => whnf))))
    skip
    refine storeK rfl n1.get rfl rfl rfl (Nat.le_of_ble_eq_true rfl) rfl fun h2 u2 => ?_; ((conv => whnf); repeat ((first | refine CodeS.step ?_ | refine RegS.step ?_ | refine RegXS.step ?_); (conv => whnf)))
    refine ⟨_, resAggK rfl rfl u2.get rfl rfl (Nat.le_of_ble_eq_true rfl) rfl, ?_⟩; ((conv => whnf); repeat ((first | refine CodeS.step ?_ | refine RegS.step ?_ | refine RegXS.step ?_); (conv => whnf)))
    exact ⟨rfl, u2.ext n1.ext (Nat.le_refl _)⟩
  · refine fnG hM Tryd.func34 rfl (hP _ _ rfl Tryd.func34) (Nat.le_of_ble_eq_true rfl) ?_; ((conv => whnf); repeat ((first | refine CodeS.step ?_ | refine RegS.step ?_ | refine RegXS.step ?_); (conv => whnf)))
    (first | refine ⟨_, _, anew_alloc (z := .agg #[.nilFunc]) (by kernel_rfl) rfl rfl, fun h1 n1 => ?_⟩ | refine NewG.obj (anew_alloc (z := .agg #[.nilFunc]) (by kernel_rfl) rfl rfl) fun h1 n1 => ?_)
    ((conv => whnf); repeat ((first | refine CodeS.step ?_ | refine RegS.step ?_ | refine RegXS.step ?_); (conv => whnf)))
    repeat (first | refine ⟨true, rfl, fun _ => ?_, (fun hc => nomatch hc)⟩; ((conv => whnf); repeat ((first | refine CodeS.step ?_ | refine RegS.step ?_ | refine RegXS.step ?_); (conv => whnf))) | refine ⟨false, rfl, (fun hc => nomatch hc), fun _ => ?_⟩; ((conv => whnf); repeat ((first | refine CodeS.step ?_ | refine RegS.step ?_ | refine RegXS.step ?_); (conv => whnf))))
    skip
    refine storeK rfl n1.get rfl rfl rfl (Nat.le_of_ble_eq_true rfl) rfl fun h2 u2 => ?_; ((conv => whnf); repeat ((first | refine CodeS.step ?_ | refine RegS.step ?_ | refine RegXS.step ?_); (conv => whnf)))
    refine ⟨_, resAggK rfl rfl u2.get rfl rfl (Nat.le_of_ble_eq_true rfl) rfl, ?_⟩; ((conv => whnf); repeat ((first | refine CodeS.step ?_ | refine RegS.step ?_ | refine RegXS.step ?_); (conv => whnf)))
    exact ⟨rfl, u2.ext n1.ext (Nat.le_refl _)⟩
  · refine fnG hM Tryd.func34 rfl (hP _ _ rfl Tryd.func34) (Nat.le_of_ble_eq_true rfl) ?_; ((conv => whnf); repeat ((first | refine CodeS.step ?_ | refine RegS.step ?_ | refine RegXS.step ?_); (conv => whnf)))
    (first | refine ⟨_, _, anew_alloc (z := .agg #[.nilFunc]) (by kernel_rfl) rfl rfl, fun h1 n1 => ?_⟩ | refine NewG.obj (anew_alloc (z := .agg #[.nilFunc]) (by kernel_rfl) rfl rfl) fun h1 n1 => ?_)
    ((conv => whnf); repeat ((first | refine CodeS.step ?_ | refine RegS.step ?_ | refine RegXS.step ?_); (conv => whnf)))
    repeat (first | refine ⟨true, rfl, fun _ => ?_, (fun hc => nomatch hc)⟩; ((conv => whnf); repeat ((first | refine CodeS.step ?_ | refine RegS.step ?_ | refine RegXS.step ?_); (conv => whnf))) | refine ⟨false, rfl, (fun hc => nomatch hc), fun _ => ?_⟩; ((conv => whnf); repeat ((first | refine CodeS.step ?_ | refine RegS.step ?_ | refine RegXS.step ?_); (conv => whnf))))
    skip
    refine storeK rfl n1.get rfl rfl rfl (Nat.le_of_ble_eq_true rfl) rfl fun h2 u2 => ?_; ((conv => whnf); repeat ((first | refine CodeS.step ?_ | refine RegS.step ?_ | refine RegXS.step ?_); (conv => whnf)))
    refine ⟨_, resAggK rfl rfl u2.get rfl rfl (Nat.le_of_ble_eq_true rfl) rfl, ?_⟩; ((conv => whnf); repeat ((first | refine CodeS.step ?_ | refine RegS.step ?_ | refine RegXS.step ?_); (conv => whnf)))
    exact ⟨rfl, u2.ext n1.ext (Nat.le_refl _)⟩
  · refine fnG hM Tryd.func34 rfl (hP _ _ rfl Tryd.func34) (Nat.le_of_ble_eq_true rfl) ?_; ((conv => whnf); repeat ((first | refine CodeS.step ?_ | refine RegS.step ?_ | refine RegXS.step ?_); (conv => whnf)))
    (first | refine ⟨_, _, anew_alloc (z := .agg #[.nilFunc]) (by kernel_rfl) rfl rfl, fun h1 n1 => ?_⟩ | refine NewG.obj (anew_alloc (z := .agg #[.nilFunc]) (by kernel_rfl) rfl rfl) fun h1 n1 => ?_)
    ((conv => whnf); repeat ((first | refine CodeS.step ?_ | refine RegS.step ?_ | refine RegXS.step ?_); (conv => whnf)))
    repeat (first | refine ⟨true, rfl, fun _ => ?_, (fun hc => nomatch hc)⟩; ((conv => whnf); repeat ((first | refine CodeS.step ?_ | refine RegS.step ?_ | refine RegXS.step ?_); (conv => whnf))) | refine ⟨false, rfl, (fun hc => nomatch hc), fun _ => ?_⟩; ((conv => whnf); repeat ((first | refine CodeS.step ?_ | refine RegS.step ?_ | refine RegXS.step ?_); (conv => whnf))))
    skip
    refine storeK rfl n1.get rfl rfl rfl (Nat.le_of_ble_eq_true rfl) rfl fun h2 u2 => ?_; ((conv => whnf); repeat ((first | refine CodeS.step ?_ | refine RegS.step ?_ | refine RegXS.step ?_); (conv => whnf)))
    refine ⟨_, resAggK rfl rfl u2.get rfl rfl (Nat.le_of_ble_eq_true rfl) rfl, ?_⟩; ((conv => whnf); repeat ((first | refine CodeS.step ?_ | refine RegS.step ?_ | refine RegXS.step ?_); (conv => whnf)))
    exact ⟨rfl, u2.ext n1.ext (Nat.le_refl _)⟩
  · refine fnG hM Tryd.func34 rfl (hP _ _ rfl Tryd.func34) (Nat.le_of_ble_eq_true rfl) ?_; ((conv => whnf); repeat ((first | refine CodeS.step ?_ | refine RegS.step ?_ | refine RegXS.step ?_); (conv => whnf)))
    (first | refine ⟨_, _, anew_alloc (z := .agg #[.nilFunc]) (by kernel_rfl) rfl rfl, fun h1 n1 => ?_⟩ | refine NewG.obj (anew_alloc (z := .agg #[.nilFunc]) (by kernel_rfl) rfl rfl) fun h1 n1 => ?_)
    ((conv => whnf); repeat ((first | refine CodeS.step ?_ | refine RegS.step ?_ | refine RegXS.step ?_); (conv => whnf)))
    repeat (first | refine ⟨true, rfl, fun _ => ?_, (fun hc => nomatch hc)⟩; ((conv => whnf); repeat ((first | refine CodeS.step ?_ | refine RegS.step ?_ | refine RegXS.step ?_); (conv => whnf))) | refine ⟨false, rfl, (fun hc => nomatch hc), fun _ => ?_⟩; ((conv => whnf); repeat ((first | refine CodeS.step ?_ | refine RegS.step ?_ | refine RegXS.step ?_); (conv => whnf))))
    skip
    refine storeK rfl n1.get rfl rfl rfl (Nat.le_of_ble_eq_true rfl) rfl fun h2 u2 => ?_; ((conv => whnf); repeat ((first | refine CodeS.step ?_ | refine RegS.step ?_ | refine RegXS.step ?_); (conv => whnf)))
    refine ⟨_, resAggK rfl rfl u2.get rfl rfl (Nat.le_of_ble_eq_true rfl) rfl, ?_⟩; ((conv => whnf); repeat ((first | refine CodeS.step ?_ | refine RegS.step ?_ | refine RegXS.step ?_); (conv => whnf)))
    exact ⟨rfl, u2.ext n1.ext (Nat.le_refl _)⟩
  · have h1 : methodF (Int.ofNat (n + 16)) = .nilFunc := by unfold methodF; rw [if_neg (by simp only [Int.ofNat_eq_natCast]; omega), if_neg (by simp only [Int.ofNat_eq_natCast]; omega), if_neg (by simp only [Int.ofNat_eq_natCast]; omega)]
    have h2 : methodB (Int.ofNat (n + 16)) = false := by unfold methodB; exact decide_eq_false (by simp only [Int.ofNat_eq_natCast]; omega)
    rw [h1, h2]
    refine fnG hM Tryd.func34 rfl (hP _ _ rfl Tryd.func34) (Nat.le_of_ble_eq_true rfl) ?_; ((conv => whnf); repeat ((first | refine CodeS.step ?_ | refine RegS.step ?_ | refine RegXS.step ?_); (conv => whnf)))
    (first | refine ⟨_, _, anew_alloc (z := .agg #[.nilFunc]) (by kernel_rfl) rfl rfl, fun h1 n1 => ?_⟩ | refine NewG.obj (anew_alloc (z := .agg #[.nilFunc]) (by kernel_rfl) rfl rfl) fun h1 n1 => ?_)
    ((conv => whnf); repeat ((first | refine CodeS.step ?_ | refine RegS.step ?_ | refine RegXS.step ?_); (conv => whnf)))
    repeat (first | refine ⟨true, rfl, fun _ => ?_, (fun hc => nomatch hc)⟩; ((conv => whnf); repeat ((first | refine CodeS.step ?_ | refine RegS.step ?_ | refine RegXS.step ?_); (conv => whnf))) | refine ⟨false, rfl, (fun hc => nomatch hc), fun _ => ?_⟩; ((conv => whnf); repeat ((first | refine CodeS.step ?_ | refine RegS.step ?_ | refine RegXS.step ?_); (conv => whnf))))
    skip
    refine storeK rfl n1.get rfl rfl rfl (Nat.le_of_ble_eq_true rfl) rfl fun h2 u2 => ?_; ((conv => whnf); repeat ((first | refine CodeS.step ?_ | refine RegS.step ?_ | refine RegXS.step ?_); (conv => whnf)))
    refine ⟨_, resAggK rfl rfl u2.get rfl rfl (Nat.le_of_ble_eq_true rfl) rfl, ?_⟩; ((conv => whnf); repeat ((first | refine CodeS.step ?_ | refine RegS.step ?_ | refine RegXS.step ?_); (conv => whnf)))
    exact ⟨rfl, u2.ext n1.ext (Nat.le_refl _)⟩

/-- What the method of a gate makes of it. -/
def methodL (k o : Int) (l : List Int) : Bool × Int × List Int :=
  if k = 1 ∨ k = 2 ∨ k = 3 ∨ k = 4 ∨ k = 11 then triedL k o l
  else if k = 5 ∨ k = 6 ∨ k = 7 ∨ k = 8 then controlledL k o l
  else parityL k o l

/-- Every row of the table of a gate that is tried is known. -/
theorem known_rows {k : Int} {n : Nat} (hk : k = 1 ∨ k = 2 ∨ k = 3 ∨ k = 4 ∨ k = 11) (h1 : loL k ≤ n) (h2 : (n : Int) ≤ hiL k) : ∀ m, m < 2 ^ n → evalL k (vecL m n) = 0 ∨ evalL k (vecL m n) = 1 := by
  rcases hk with rfl | rfl | rfl | rfl | rfl
  · have : n = 0 := by have : hiL 1 = 0 := rfl; omega
    subst this
    decide
  · have : n = 0 := by have : hiL 2 = 0 := rfl; omega
    subst this
    decide
  · have : n = 1 := by have : hiL 3 = 1 := rfl; have : loL 3 = 1 := rfl; omega
    subst this
    decide
  · have : n = 1 := by have : hiL 4 = 1 := rfl; have : loL 4 = 1 := rfl; omega
    subst this
    decide
  · have : n = 3 := by have : hiL 11 = 3 := rfl; have : loL 11 = 3 := rfl; omega
    subst this
    decide
end Go.Proofs.YtedefohdeignpaaDoor
