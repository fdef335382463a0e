/-
  ImpliesGate: at each gate with known and unknown values, what Gate derives is what all completions have in common.
-/
import Derived.Test.YtedefohdeignpaaDoorGate8
namespace Go.Proofs.YtedefohdeignpaaDoor
open Go.Abs
set_option maxRecDepth 100000

def toOpt (m : Nat) (c : List Int) : Option (Int × List Int) := match c with
  | [] => none
  | x :: r => some ((x :: r).getD m 0, (x :: r).take m)

/-- All vectors of 0, 1 and 2. -/
def vecs : Nat → List (List Int)
  | 0 => [[]]
  | n + 1 => (vecs n).flatMap fun v => [0 :: v, 1 :: v, 2 :: v]

theorem mem_vecs : ∀ (l : List Int), (∀ x ∈ l, x = 0 ∨ x = 1 ∨ x = 2) → l ∈ vecs l.length
  | [], _ => by simp [vecs]
  | x :: l, h => by
    have ih := mem_vecs l fun y m => h y (by simp [m])
    have hx := h x (by simp)
    simp only [vecs, List.length_cons, List.mem_flatMap]
    refine ⟨l, ih, ?_⟩
    rcases hx with rfl | rfl | rfl <;> simp

def optEq : Option (Int × List Int) → Option (Int × List Int) → Bool
  | none, none => true
  | some (a, l), some (b, m) => a == b && l == m
  | _, _ => false

theorem optEq_eq {x y : Option (Int × List Int)} (h : optEq x y = true) : x = y := by
  unfold optEq at h
  split at h
  · rfl
  · simp only [Bool.and_eq_true, beq_iff_eq] at h
    rw [h.1, h.2]
  · cases h

def checkAt (k : Int) (m : Nat) : Bool := (vecs m).all fun l => [0, 1, 2].all fun o => optEq (gateL k o l) (toOpt m (meetTo k o l m (2 ^ m)))

theorem c1 : (checkAt 1 0 && checkAt 2 0 && checkAt 3 1 && checkAt 4 1 && checkAt 11 3) = true := by decide +kernel
theorem c2 : (checkAt 5 2 && checkAt 6 2 && checkAt 7 2 && checkAt 8 2 && checkAt 9 2 && checkAt 10 2) = true := by decide +kernel
theorem c3 : (checkAt 5 3 && checkAt 6 3 && checkAt 7 3 && checkAt 8 3 && checkAt 9 3 && checkAt 10 3) = true := by decide +kernel
theorem c4 : (checkAt 5 4 && checkAt 6 4 && checkAt 7 4 && checkAt 8 4 && checkAt 9 4 && checkAt 10 4) = true := by decide +kernel
theorem c55 : checkAt 5 5 = true := by decide +kernel
theorem c65 : checkAt 6 5 = true := by decide +kernel
theorem c75 : checkAt 7 5 = true := by decide +kernel
theorem c85 : checkAt 8 5 = true := by decide +kernel
theorem c95 : checkAt 9 5 = true := by decide +kernel
theorem c105 : checkAt 10 5 = true := by decide +kernel

theorem check_all (K n : Nat) (h1 : 1 ≤ K) (h2 : K ≤ 11) : checkAt (Int.ofNat K) (nGate K n) = true := by
  have a1 := c1
  have a2 := c2
  have a3 := c3
  have a4 := c4
  simp only [Bool.and_eq_true] at a1 a2 a3 a4
  have hn : n % 4 = 0 ∨ n % 4 = 1 ∨ n % 4 = 2 ∨ n % 4 = 3 := by omega
  have hK : K = 1 ∨ K = 2 ∨ K = 3 ∨ K = 4 ∨ K = 5 ∨ K = 6 ∨ K = 7 ∨ K = 8 ∨ K = 9 ∨ K = 10 ∨ K = 11 := by omega
  rcases hK with rfl | rfl | rfl | rfl | rfl | rfl | rfl | rfl | rfl | rfl | rfl <;> unfold nGate <;> simp only [Nat.reduceEqDiff, or_false, false_or, or_true, true_or, if_true, if_false]
  · exact a1.1.1.1.1
  · exact a1.1.1.1.2
  · exact a1.1.1.2
  · exact a1.1.2
  · rcases hn with e | e | e | e <;> rw [e]
    · exact a2.1.1.1.1.1
    · exact a3.1.1.1.1.1
    · exact a4.1.1.1.1.1
    · exact c55
  · rcases hn with e | e | e | e <;> rw [e]
    · exact a2.1.1.1.1.2
    · exact a3.1.1.1.1.2
    · exact a4.1.1.1.1.2
    · exact c65
  · rcases hn with e | e | e | e <;> rw [e]
    · exact a2.1.1.1.2
    · exact a3.1.1.1.2
    · exact a4.1.1.1.2
    · exact c75
  · rcases hn with e | e | e | e <;> rw [e]
    · exact a2.1.1.2
    · exact a3.1.1.2
    · exact a4.1.1.2
    · exact c85
  · rcases hn with e | e | e | e <;> rw [e]
    · exact a2.1.2
    · exact a3.1.2
    · exact a4.1.2
    · exact c95
  · rcases hn with e | e | e | e <;> rw [e]
    · exact a2.2
    · exact a3.2
    · exact a4.2
    · exact c105
  · exact a1.2

theorem readL_read (x : Int) : readL (readL x) = readL x := by
  unfold readL
  by_cases h : 2 < x <;> simp [h]

theorem gateL_read (k o : Int) (l : List Int) : gateL k o l = gateL k (readL o) (l.map readL) := by
  unfold gateL
  have e : (l.map readL).map readL = l.map readL := by rw [List.map_map]; exact List.map_congr_left fun x _ => readL_read x
  rw [readL_read, e, List.length_map]

theorem fitTo_read {l : List Int} {m b : Nat} (hm : m ≤ l.length) : ∀ i, i ≤ m → fitTo l b i = fitTo ((l.take m).map readL) b i
  | 0, _ => rfl
  | i + 1, hi => by
    rw [fitTo_succ, fitTo_succ, fitTo_read hm i (by omega)]
    have e : ((l.take m).map readL).getD i 0 = readL (l.getD i 0) := by
      rw [List.getD, List.getElem?_map, List.getElem?_take, if_pos (by omega), List.getD, List.getElem?_eq_getElem (by omega)]
      rfl
    rw [e]
    generalize l.getD i 0 = v
    have hb : bitL b i = 0 ∨ bitL b i = 1 := by unfold bitL; simp only [Int.ofNat_eq_natCast]; omega
    congr 1
    rw [Bool.eq_iff_iff]
    simp only [Bool.or_eq_true, decide_eq_true_eq, beq_iff_eq]
    unfold readL
    split <;> omega

theorem meetTo_read {k o : Int} {l : List Int} {m : Nat} (hm : m ≤ l.length) (he : ∀ b, evalL k (bitsTo b m) = 0 ∨ evalL k (bitsTo b m) = 1) : ∀ b, meetTo k o l m b = meetTo k (readL o) ((l.take m).map readL) m b
  | 0 => rfl
  | b + 1 => by
    unfold meetTo stepL
    rw [← meetTo_read hm he b, ← fitTo_read hm m (Nat.le_refl m)]
    have hy := he b
    generalize evalL k (bitsTo b m) = y at hy
    have : (readL o < 2 ∧ readL o ≠ y) ↔ (o < 2 ∧ o ≠ y) := by unfold readL; split <;> omega
    simp only [this]

def bits01 (m : Nat) (k : Int) : Bool := (List.range (2 ^ m)).all fun b => evalL k (bitsTo b m) == 0 || evalL k (bitsTo b m) == 1

theorem bitsTo_mod (m b : Nat) : bitsTo b m = bitsTo (b % 2 ^ m) m := by
  unfold bitsTo
  refine List.map_congr_left fun i hi => ?_
  have hi' : i < m := List.mem_range.1 hi
  unfold bitL
  congr 1
  have : 2 ^ m = 2 ^ i * 2 ^ (m - i) := by rw [← Nat.pow_add]; congr 1; omega
  rw [this, Nat.mod_mul_right_div_self, Nat.mod_mod_of_dvd]
  exact ⟨2 ^ (m - i - 1), by rw [← Nat.pow_succ']; congr 1; omega⟩

theorem bits01_all : ([0, 1, 2, 3, 4, 5].all fun m => [1, 2, 3, 4, 5, 6, 7, 8, 9, 10, 11].all fun k => decide (m < (loL k).toNat) || decide ((hiL k).toNat < m) || bits01 m k) = true := by decide +kernel

theorem eval01 (K n b : Nat) (h1 : 1 ≤ K) (h2 : K ≤ 11) : evalL (Int.ofNat K) (bitsTo b (nGate K n)) = 0 ∨ evalL (Int.ofNat K) (bitsTo b (nGate K n)) = 1 := by
  rw [bitsTo_mod]
  have hm : ∀ m, bits01 m (Int.ofNat K) = true → evalL (Int.ofNat K) (bitsTo (b % 2 ^ m) m) = 0 ∨ evalL (Int.ofNat K) (bitsTo (b % 2 ^ m) m) = 1 := by
    intro m h
    have := List.all_eq_true.1 h (b % 2 ^ m) (List.mem_range.2 (Nat.mod_lt _ (Nat.two_pow_pos m)))
    simpa using this
  refine hm _ ?_
  have hall := bits01_all
  have get : ∀ m, m ∈ [0, 1, 2, 3, 4, 5] → ∀ k : Int, k ∈ ([1, 2, 3, 4, 5, 6, 7, 8, 9, 10, 11] : List Int) → (decide (m < (loL k).toNat) || decide ((hiL k).toNat < m) || bits01 m k) = true := fun m q k q' => List.all_eq_true.1 (List.all_eq_true.1 hall m q) k q'
  have hn : n % 4 = 0 ∨ n % 4 = 1 ∨ n % 4 = 2 ∨ n % 4 = 3 := by omega
  have hK : K = 1 ∨ K = 2 ∨ K = 3 ∨ K = 4 ∨ K = 5 ∨ K = 6 ∨ K = 7 ∨ K = 8 ∨ K = 9 ∨ K = 10 ∨ K = 11 := by omega
  rcases hK with rfl | rfl | rfl | rfl | rfl | rfl | rfl | rfl | rfl | rfl | rfl <;> unfold nGate <;> simp only [Nat.reduceEqDiff, or_false, false_or, or_true, true_or, if_true, if_false]
  · have := get 0 (by decide) 1 (by decide); simpa [loL, hiL] using this
  · have := get 0 (by decide) 2 (by decide); simpa [loL, hiL] using this
  · have := get 1 (by decide) 3 (by decide); simpa [loL, hiL] using this
  · have := get 1 (by decide) 4 (by decide); simpa [loL, hiL] using this
  · rcases hn with e | e | e | e <;> rw [e]
    · have := get 2 (by decide) 5 (by decide); simpa [loL, hiL] using this
    · have := get 3 (by decide) 5 (by decide); simpa [loL, hiL] using this
    · have := get 4 (by decide) 5 (by decide); simpa [loL, hiL] using this
    · have := get 5 (by decide) 5 (by decide); simpa [loL, hiL] using this
  · rcases hn with e | e | e | e <;> rw [e]
    · have := get 2 (by decide) 6 (by decide); simpa [loL, hiL] using this
    · have := get 3 (by decide) 6 (by decide); simpa [loL, hiL] using this
    · have := get 4 (by decide) 6 (by decide); simpa [loL, hiL] using this
    · have := get 5 (by decide) 6 (by decide); simpa [loL, hiL] using this
  · rcases hn with e | e | e | e <;> rw [e]
    · have := get 2 (by decide) 7 (by decide); simpa [loL, hiL] using this
    · have := get 3 (by decide) 7 (by decide); simpa [loL, hiL] using this
    · have := get 4 (by decide) 7 (by decide); simpa [loL, hiL] using this
    · have := get 5 (by decide) 7 (by decide); simpa [loL, hiL] using this
  · rcases hn with e | e | e | e <;> rw [e]
    · have := get 2 (by decide) 8 (by decide); simpa [loL, hiL] using this
    · have := get 3 (by decide) 8 (by decide); simpa [loL, hiL] using this
    · have := get 4 (by decide) 8 (by decide); simpa [loL, hiL] using this
    · have := get 5 (by decide) 8 (by decide); simpa [loL, hiL] using this
  · rcases hn with e | e | e | e <;> rw [e]
    · have := get 2 (by decide) 9 (by decide); simpa [loL, hiL] using this
    · have := get 3 (by decide) 9 (by decide); simpa [loL, hiL] using this
    · have := get 4 (by decide) 9 (by decide); simpa [loL, hiL] using this
    · have := get 5 (by decide) 9 (by decide); simpa [loL, hiL] using this
  · rcases hn with e | e | e | e <;> rw [e]
    · have := get 2 (by decide) 10 (by decide); simpa [loL, hiL] using this
    · have := get 3 (by decide) 10 (by decide); simpa [loL, hiL] using this
    · have := get 4 (by decide) 10 (by decide); simpa [loL, hiL] using this
    · have := get 5 (by decide) 10 (by decide); simpa [loL, hiL] using this
  · have := get 3 (by decide) 11 (by decide); simpa [loL, hiL] using this

theorem gate_meets {K n : Nat} (h1 : 1 ≤ K) (h2 : K ≤ 11) {o : Int} {l : List Int} (ho : 0 ≤ o) (hl : ∀ x ∈ l, 0 ≤ x) (hm : nGate K n ≤ l.length) :
    gateL (Int.ofNat K) o (l.take (nGate K n)) = toOpt (nGate K n) (meetTo (Int.ofNat K) o l (nGate K n) (2 ^ nGate K n)) := by
  rw [gateL_read, meetTo_read hm (eval01 K n · h1 h2)]
  have hc := check_all K n h1 h2
  have r3 : ∀ x : Int, 0 ≤ x → readL x = 0 ∨ readL x = 1 ∨ readL x = 2 := fun x hx => by unfold readL; split <;> omega
  have hmem : (l.take (nGate K n)).map readL ∈ vecs (nGate K n) := by
    have := mem_vecs ((l.take (nGate K n)).map readL) fun x hx => by
      obtain ⟨y, hy, rfl⟩ := List.mem_map.1 hx
      exact r3 y (hl y (List.mem_of_mem_take hy))
    rw [List.length_map, List.length_take, Nat.min_eq_left hm] at this
    exact this
  have := List.all_eq_true.1 (List.all_eq_true.1 hc _ hmem) (readL o) (by
    rcases r3 o ho with e | e | e <;> rw [e] <;> decide)
  exact optEq_eq this

/-- ImpliesGate returns true. -/
theorem implies_gate {k n : Nat} (hk : k < 256) {vs : List Int} (hvs : ∀ x ∈ vs, 0 ≤ x ∧ x < 256) :
    FnV Tryd.prog NG vars 3 #[u8 (Int.ofNat k), u8 (Int.ofNat n), FL 1 (vals vs)] (.bool true) := by
  have h1 : 1 ≤ k % 11 + 1 := by omega
  have h2 : k % 11 + 1 ≤ 11 := by omega
  have hM5 : nGate (k % 11 + 1) n ≤ 5 := by unfold nGate; repeat (first | (split) | omega)
  have hp : ∀ i, 0 ≤ pickL vs i := fun i => by
    unfold pickL
    split
    · rename_i x hx
      have := hvs x (List.mem_of_getElem? hx)
      omega
    · omega
  have hL0 : ∀ x ∈ (List.range 6).map (pickL vs), 0 ≤ x := fun x hx => by
    obtain ⟨i, _, rfl⟩ := List.mem_map.1 hx
    exact hp i
  refine implies_gate_run hk hvs rfl rfl hM5 rfl hL0 ?_
  rw [gate_meets h1 h2 (by
    have : ((List.range 6).map (pickL vs)).getD 5 0 = pickL vs 5 := rfl
    rw [this]; exact hp 5) hL0 (by simp; omega)]
  cases meetTo (Int.ofNat (k % 11 + 1)) (((List.range 6).map (pickL vs)).getD 5 0) ((List.range 6).map (pickL vs)) (nGate (k % 11 + 1) n) (2 ^ nGate (k % 11 + 1) n) <;> rfl
end Go.Proofs.YtedefohdeignpaaDoor
