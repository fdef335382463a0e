/-
  The arguments of the laws of the pairs, off what is handed in.
-/
import Derived.Test.YtbfgncmnallhlaaDoorPairs3
import Derived.Test.YtbfgncmnallhlaaDoorAbsY
namespace Go.Proofs.YtbfgncmnallhlaaDoor
open Go.Abs
set_option maxRecDepth 100000

theorem plain_pr {a b : Int} : plain (pr a b) = true := by kernel_rfl

theorem lives2_ok {h : Heap} (hv : Vars h) : CallD Tryd.prog NG 16 #[] h (.bool true) h := by
  obtain ⟨h', e⟩ := isTrue_iff lives2
  have c := (runFn_sound hM hP (fun f vs h v e => orcExt_sound f vs h v e) 60 _ _ _ _ _ e).1
  exact CallD.sized fun hs => c.lift (by simp) rfl (bears_vars hs hv)


theorem zeroValue : zeroOf Tryd.prog 22 = some (u8 0) := by kernel_rfl
theorem plainsValue : (u8 0).cells.all plain0 = true := by kernel_rfl
theorem one_mem {x : Value} {s : Nat} (h : (cl x).length = s) (e : Value) (he : e ∈ [x]) : (cl e).length = s := by
  simp only [List.mem_singleton] at he; subst he; exact h
theorem clean_range' {a : Int} (h : 0 ≤ a) : 0 ≤ cleanL a ∧ cleanL a ≤ 3 := by unfold cleanL; split <;> omega
theorem clean_idem' (a : Int) : cleanL (cleanL a) = cleanL a := by unfold cleanL; split <;> simp_all

def shPair : Sh := .pair (.int .u8) (.pair (.int .u8) .unit)

theorem u8_wf {n : Int} (h : (Lit.int .u8 n).wf = true) : 0 ≤ n ∧ n < 256 := by
  simp [Lit.wf, IntKind.min, IntKind.max, IntKind.signed, IntKind.bits] at h
  omega

theorem rep_pair {h : Heap} {x : shPair.Den} {v : Value} (w : shPair.wf x) (r : RepV h shPair true x v) : v = pr x.1 x.2.1 ∧ (0 ≤ x.1 ∧ x.1 < 256) ∧ (0 ≤ x.2.1 ∧ x.2.1 < 256) := by
  obtain ⟨a, b, u⟩ := x
  obtain ⟨cs, ⟨c1, c2, rfl, r1, c3, c4, rfl, r2, r3⟩, rfl⟩ := r
  refine ⟨?_, u8_wf w.1, u8_wf w.2.1⟩
  have r1 : c1 = [.int .u8 a] := r1
  have r2 : c3 = [.int .u8 b] := r2
  have r3 : c4 = [] := r3
  subst r1 r2 r3
  rfl

theorem rep_u8 {h : Heap} {x : Int} {v : Value} (w : (Sh.int .u8).wf x) (r : RepV h (.int .u8) false x v) : v = u8 x ∧ 0 ≤ x ∧ x < 256 := by
  obtain ⟨cs, r1, r2⟩ := r
  have r1 : cs = [.int .u8 x] := r1
  have r2 : cs = [v] := r2
  subst r1
  cases r2
  exact ⟨rfl, u8_wf w⟩

theorem rep_pairs {h : Heap} {x : (Sh.slice shPair).Den} {v : Value} (w : (Sh.slice shPair).wf x) (r : RepV h (.slice shPair) false x v) : Sl h 2 v (prs (x.map fun q => (q.1, q.2.1))) ∧ ∀ q ∈ x.map (fun q => (q.1, q.2.1)), (0 ≤ q.1 ∧ q.1 < 256) ∧ (0 ≤ q.2 ∧ q.2 < 256) := by
  refine ⟨?_, fun q hq => ?_⟩
  · obtain ⟨cs, r1, r2⟩ := r
    have r2 : cs = [v] := r2
    subst r2
    rcases r1 with ⟨e1, e2⟩ | ⟨g, cap, e1, e2, e3, e4⟩
    · cases e1
      have e2 : x = [] := e2
      subst e2
      exact .inl ⟨rfl, rfl⟩
    · cases e1
      refine Sl.of_flat e4 ?_ (by simp [prs]) (by simpa [prs] using e2) (r := []) ?_
      · intro e he
        simp only [prs, List.map_map, List.mem_map] at he
        obtain ⟨y, _, rfl⟩ := he
        rfl
      · rw [List.append_nil]
        simp only [flatC, prs, List.map_map, List.flatMap_map]
        rfl
  · simp only [List.mem_map] at hq
    obtain ⟨y, hy, rfl⟩ := hq
    have := w.2 y hy
    exact ⟨u8_wf this.1, u8_wf this.2.1⟩
end Go.Proofs.YtbfgncmnallhlaaDoor
