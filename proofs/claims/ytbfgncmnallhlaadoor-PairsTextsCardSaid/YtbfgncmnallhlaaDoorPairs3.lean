/-
  Evaluation of pairs.
-/
import Derived.Test.YtbfgncmnallhlaaDoorPairs2
namespace Go.Proofs.YtbfgncmnallhlaaDoor
open Go.Abs
set_option maxRecDepth 100000

variable {h : Heap}

theorem peval_ok {k : Int} {a : Option Addr} {n cap : Nat} {l : List (Int × Int)} (hk : 0 ≤ k) (hk2 : k < 256) (hv : Vars h) (hs : Sl h 2 (.slice a n cap) (prs l)) (hl : ∀ q ∈ l, 0 ≤ q.1 ∧ 0 ≤ q.2) (hn : l.length < 2 ^ 40) :
    CallD Tryd.prog NG 17 #[u8 k, .slice a n cap] h (pr (pevalL k l).1 (pevalL k l).2) h := by
  obtain rfl := prs_len hs
  refine fnP hM Tryd.func17 rfl (hP _ _ rfl Tryd.func17) (Nat.le_of_ble_eq_true rfl) (by kernel_rfl) ?_; ((conv => whnf); repeat ((first | refine CodeS.step ?_ | refine RegS.step ?_ | refine RegXS.step ?_); (conv => whnf)))
  refine ⟨_, _, allocPair, fun h1 n1 => ?_⟩; ((conv => whnf); repeat ((first | refine CodeS.step ?_ | refine RegS.step ?_ | refine RegXS.step ?_); (conv => whnf)))
  obtain ⟨h2, c2, e2, g2⟩ := side_ok (hs.ext n1.ext) hn (p := fun x _ => x) (fun x y h => side1_ok x y)
  refine ⟨_, _, c2, ?_⟩; ((conv => whnf); repeat ((first | refine CodeS.step ?_ | refine RegS.step ?_ | refine RegXS.step ?_); (conv => whnf)))
  obtain ⟨h3, c3, e3, g3⟩ := side_ok (hs.ext (n1.ext.trans e2)) hn (p := fun _ y => y) (fun x y h => side2_ok x y)
  refine ⟨_, _, c3, ?_⟩; ((conv => whnf); repeat ((first | refine CodeS.step ?_ | refine RegS.step ?_ | refine RegXS.step ?_); (conv => whnf)))
  have E : Ext h h3 := (n1.ext.trans e2).trans e3
  have s1 := sl_vals (e3.get g2) (n := l.length) (by simp)
  have s2 := sl_vals g3 (n := l.length) (by simp)
  refine ⟨_, _, eval_ok hk hk2 (hv.ext E) s1 ?_ ?_, ?_⟩
  · intro x hx
    simp only [List.mem_map] at hx
    obtain ⟨q, hq, rfl⟩ := hx
    exact (hl q hq).1
  · simp; omega
  ((conv => whnf); repeat ((first | refine CodeS.step ?_ | refine RegS.step ?_ | refine RegXS.step ?_); (conv => whnf)))
  refine ⟨_, _, eval_ok hk hk2 (hv.ext E) s2 ?_ ?_, ?_⟩
  · intro x hx
    simp only [List.mem_map] at hx
    obtain ⟨q, hq, rfl⟩ := hx
    exact (hl q hq).2
  · simp; omega
  ((conv => whnf); repeat ((first | refine CodeS.step ?_ | refine RegS.step ?_ | refine RegXS.step ?_); (conv => whnf)))
  refine ⟨_, buildPair rfl, ?_⟩; ((conv => whnf); repeat ((first | refine CodeS.step ?_ | refine RegS.step ?_ | refine RegXS.step ?_); (conv => whnf)))
  have e1 := e3.get (e2.get n1.get)
  refine storeK rfl e1 rfl rfl rfl (Nat.le_of_ble_eq_true rfl) rfl fun h4 u4 => ?_; ((conv => whnf); repeat ((first | refine CodeS.step ?_ | refine RegS.step ?_ | refine RegXS.step ?_); (conv => whnf)))
  refine ⟨_, resAggK rfl rfl u4.get rfl rfl (Nat.le_of_ble_eq_true rfl) rfl, ?_⟩; ((conv => whnf); repeat ((first | refine CodeS.step ?_ | refine RegS.step ?_ | refine RegXS.step ?_); (conv => whnf)))
  exact ⟨rfl, u4.ext E (Nat.le_refl _)⟩
end Go.Proofs.YtbfgncmnallhlaaDoor
