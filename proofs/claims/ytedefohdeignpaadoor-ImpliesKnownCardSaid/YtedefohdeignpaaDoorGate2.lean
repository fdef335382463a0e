/-
  The package 'implies', its gate in memory: controlled.
-/
import Derived.Test.YtedefohdeignpaaDoorGate1
namespace Go.Proofs.YtedefohdeignpaaDoor
open Go.Abs
set_option maxRecDepth 100000

/-- 'set' on each in turn, to the first that answers false. -/
def setGo (y : Int) : List Int → List Int → Bool × List Int
  | d, [] => (true, d)
  | d, x :: r => if setB x y = true then setGo y (d ++ [setV x y]) r else (false, d ++ setV x y :: r)

def countU : List Int → Nat
  | [] => 0
  | x :: r => (if x == 2 then 1 else 0) + countU r

/-- What 'controlled' makes of a gate: its answer, its output, its inputs. -/
def controlledL (k o : Int) (l : List Int) : Bool × Int × List Int :=
  let c := controlL k
  let y := notL c
  if (hiddenL k o == y) = true then ((setGo y [] l).1, o, (setGo y [] l).2)
  else if (l.any fun y => c == y) = true then (setB o (putL k c), setV o (putL k c), l)
  else if countU l = 0 then (setB o (putL k y), setV o (putL k y), l)
  else if countU l = 1 ∧ (hiddenL k o == c) = true then
    match l.findIdx? fun y => 2 == y with
    | some i => (true, o, l.set i c)
    | none => (true, o, l)
  else (true, o, l)

theorem vals_at (d r : List Int) (x : Int) : (vals (d ++ x :: r))[0 + d.length * 1]? = some (u8 x) := by
  unfold vals
  rw [Nat.zero_add, Nat.mul_one, List.getElem?_map, List.getElem?_append_right (Nat.le_refl _), Nat.sub_self]
  rfl
theorem vals_set (d r : List Int) (x y : Int) : (vals (d ++ x :: r)).set (0 + d.length * 1) (u8 y) = vals (d ++ y :: r) := by
  unfold vals
  rw [Nat.zero_add, Nat.mul_one, ← List.map_set, List.set_append_right _ _ (Nat.le_refl _), Nat.sub_self]
  rfl
theorem countU_le : ∀ l : List Int, countU l ≤ l.length
  | [] => Nat.le_refl _
  | x :: r => by have := countU_le r; simp only [countU, List.length_cons]; split <;> omega
theorem countU_snoc (x : Int) : ∀ d : List Int, countU (d ++ [x]) = countU d + (if x == 2 then 1 else 0)
  | [] => by simp [countU]
  | z :: r => by rw [List.cons_append, countU, countU, countU_snoc x r]; omega
theorem find_count : ∀ l : List Int, countU l ≠ 0 → ∃ i, (l.findIdx? fun y => 2 == y) = some i ∧ l[i]? = some 2
  | [], h => absurd rfl h
  | x :: r, h => by
    by_cases q : x = 2
    · subst q
      exact ⟨0, by simp [List.findIdx?_cons], rfl⟩
    · have q1 : (x == 2) = false := by simpa using q
      have q2 : (2 == x) = false := by simp; omega
      simp only [countU, q1] at h
      obtain ⟨i, e1, e2⟩ := find_count r (by simpa using h)
      exact ⟨i + 1, by rw [List.findIdx?_cons, q2, e1]; rfl, by simpa using e2⟩
theorem controlL_nonneg {k : Int} : 0 ≤ controlL k := by unfold controlL; repeat (first | (split) | omega)

section
variable {h : Heap} {gg gi : Nat} {k o : Int} {l : List Int}

theorem controlled_ok (hk : 0 ≤ k) (ho : 0 ≤ o) (hl : ∀ x ∈ l, 0 ≤ x) (hn : l.length < 2 ^ 62) (G : GateAt h gg gi k o l) :
    ∃ h', CallD Tryd.prog NG 57 #[.pointer (some ⟨gg, 0, none⟩)] h (.bool (controlledL k o l).1) h' ∧ GateAt h' gg gi k (controlledL k o l).2.1 (controlledL k o l).2.2 ∧ GStep h h' gg gi := by
  suffices q : ∃ r h', CallD Tryd.prog NG 57 #[.pointer (some ⟨gg, 0, none⟩)] h r h' ∧ (r = .bool (controlledL k o l).1 ∧ GateAt h' gg gi k (controlledL k o l).2.1 (controlledL k o l).2.2 ∧ GStep h h' gg gi) by
    obtain ⟨r, h', q1, rfl, q2⟩ := q
    exact ⟨h', q1, q2⟩
  generalize hR : controlledL k o l = R
  unfold controlledL at hR
  simp only at hR
  have hc0 : 0 ≤ controlL k := controlL_nonneg
  have hy0 : 0 ≤ notL (controlL k) := notL_nonneg
  refine fnG hM Tryd.func57 rfl (hP _ _ rfl Tryd.func57) (Nat.le_of_ble_eq_true rfl) ?_; ((conv => whnf); repeat ((first | refine CodeS.step ?_ | refine RegS.step ?_ | refine RegXS.step ?_); (conv => whnf)))
  refine ⟨_, loadK rfl G.g rfl rfl, ?_⟩; ((conv => whnf); repeat ((first | refine CodeS.step ?_ | refine RegS.step ?_ | refine RegXS.step ?_); (conv => whnf)))
  refine ⟨_, _, control_ok hk, ?_⟩; ((conv => whnf); repeat ((first | refine CodeS.step ?_ | refine RegS.step ?_ | refine RegXS.step ?_); (conv => whnf)))
  refine ⟨_, _, not_ok hc0, ?_⟩; ((conv => whnf); repeat ((first | refine CodeS.step ?_ | refine RegS.step ?_ | refine RegXS.step ?_); (conv => whnf)))
  refine ⟨_, _, hidden_ok hk ho G, ?_⟩; ((conv => whnf); repeat ((first | refine CodeS.step ?_ | refine RegS.step ?_ | refine RegXS.step ?_); (conv => whnf)))
  generalize hy : notL (controlL k) = y at hR hy0
  refine ⟨_, rfl, fun hc => ?_, fun hc => ?_⟩
  · rw [if_pos hc] at hR
    ((conv => whnf); repeat ((first | refine CodeS.step ?_ | refine RegS.step ?_ | refine RegXS.step ?_); (conv => whnf)))
    refine ⟨_, loadK rfl G.g rfl rfl, ?_⟩; ((conv => whnf); repeat ((first | refine CodeS.step ?_ | refine RegS.step ?_ | refine RegXS.step ?_); (conv => whnf)))
    refine loopG (σ := List Int × List Int) (nn := 92) hM (by kernel_rfl)
      (fun (d, r) h2 => GateAt h2 gg gi k o (d ++ r) ∧ GStep h h2 gg gi ∧ (d ++ r).length = l.length ∧ setGo y d r = setGo y [] l)
      (fun (d, _) => [(0, .pointer (some ⟨gg, 0, none⟩)), (5, u8 y), (28, .int .i64 (Int.ofNat l.length)), (29, .int .i64 (Int.ofNat d.length))]) (fun (_, r) => r.length) rfl
      ⟨([], l), ⟨G, GStep.refl _ _ _, rfl, rfl⟩, rfl, rfl, rfl, rfl, trivial⟩ ?_
    rintro ⟨d, r⟩ base h2 ⟨G2, S2, L2, I2⟩
    ((conv => whnf); repeat ((first | refine CodeS.step ?_ | refine RegS.step ?_ | refine RegXS.step ?_); (conv => whnf)))
    refine ⟨_, rfl, fun hc => ?_, fun hc => ?_⟩
    · replace hc := lt_of_ltI hc
      cases r with
      | nil => simp at L2; omega
      | cons x r =>
        ((conv => whnf); repeat ((first | refine CodeS.step ?_ | refine RegS.step ?_ | refine RegXS.step ?_); (conv => whnf)))
        refine ⟨_, loadK rfl G2.g rfl rfl, ?_⟩; ((conv => whnf); repeat ((first | refine CodeS.step ?_ | refine RegS.step ?_ | refine RegXS.step ?_); (conv => whnf)))
        refine indexK rfl rfl rfl rfl (by rw [L2]; exact hc) ?_
        ((conv => whnf); repeat ((first | refine CodeS.step ?_ | refine RegS.step ?_ | refine RegXS.step ?_); (conv => whnf)))
        obtain ⟨h3, c3, u3⟩ := set_ok (y := y) G2.i (vals_at d r x)
        rw [vals_set] at u3
        obtain ⟨G3, S3⟩ := G2.inp (l1 := d ++ setV x y :: r) (by simp) u3
        refine ⟨_, h3, c3, ?_⟩
        ((conv => whnf); repeat ((first | refine CodeS.step ?_ | refine RegS.step ?_ | refine RegXS.step ?_); (conv => whnf)))
        rw [setGo] at I2
        cases hb : setB x y with
        | false =>
          rw [hb, if_neg (by simp)] at I2
          ((conv => whnf); repeat ((first | refine CodeS.step ?_ | refine RegS.step ?_ | refine RegXS.step ?_); (conv => whnf)))
          refine ⟨true, rfl, fun _ => ?_, (fun hc => nomatch hc)⟩; ((conv => whnf); repeat ((first | refine CodeS.step ?_ | refine RegS.step ?_ | refine RegXS.step ?_); (conv => whnf)))
          subst hR
          rw [← I2]
          exact ⟨rfl, G3, S2.trans S3⟩
        | true =>
          rw [hb, if_pos rfl] at I2
          ((conv => whnf); repeat ((first | refine CodeS.step ?_ | refine RegS.step ?_ | refine RegXS.step ?_); (conv => whnf)))
          refine ⟨false, rfl, (fun hc => nomatch hc), fun _ => ?_⟩; ((conv => whnf); repeat ((first | refine CodeS.step ?_ | refine RegS.step ?_ | refine RegXS.step ?_); (conv => whnf)))
          refine ⟨_, addK (b := 1) rfl rfl (by omega), ?_⟩; ((conv => whnf); repeat ((first | refine CodeS.step ?_ | refine RegS.step ?_ | refine RegXS.step ?_); (conv => whnf)))
          exact ⟨(d ++ [setV x y], r), by simp, ⟨by rw [List.append_assoc]; exact G3, S2.trans S3, by simpa using L2, I2⟩, rfl, rfl, rfl, by simp; rfl, trivial⟩
    · replace hc := ge_of_ltI hc
      cases r with
      | cons x r => simp at L2; omega
      | nil =>
        ((conv => whnf); repeat ((first | refine CodeS.step ?_ | refine RegS.step ?_ | refine RegXS.step ?_); (conv => whnf)))
        rw [setGo] at I2
        subst hR
        rw [← I2]
        rw [List.append_nil] at G2
        exact ⟨rfl, G2, S2⟩
  rw [if_neg (by rw [hc]; simp)] at hR
  ((conv => whnf); repeat ((first | refine CodeS.step ?_ | refine RegS.step ?_ | refine RegXS.step ?_); (conv => whnf)))
  refine ⟨_, loadK rfl G.g rfl rfl, ?_⟩; ((conv => whnf); repeat ((first | refine CodeS.step ?_ | refine RegS.step ?_ | refine RegXS.step ?_); (conv => whnf)))
  refine ⟨_, _, contains_ok G.sl hn (controlL k), ?_⟩; ((conv => whnf); repeat ((first | refine CodeS.step ?_ | refine RegS.step ?_ | refine RegXS.step ?_); (conv => whnf)))
  refine ⟨_, rfl, fun hc => ?_, fun hc => ?_⟩
  · rw [if_pos hc] at hR
    ((conv => whnf); repeat ((first | refine CodeS.step ?_ | refine RegS.step ?_ | refine RegXS.step ?_); (conv => whnf)))
    obtain ⟨h3, c3, G3, S3⟩ := put_ok hk hc0 G
    refine ⟨_, h3, c3, ?_⟩
    ((conv => whnf); repeat ((first | refine CodeS.step ?_ | refine RegS.step ?_ | refine RegXS.step ?_); (conv => whnf)))
    subst hR
    exact ⟨rfl, G3, S3⟩
  rw [if_neg (by rw [hc]; simp)] at hR
  ((conv => whnf); repeat ((first | refine CodeS.step ?_ | refine RegS.step ?_ | refine RegXS.step ?_); (conv => whnf)))
  refine ⟨_, loadK rfl G.g rfl rfl, ?_⟩; ((conv => whnf); repeat ((first | refine CodeS.step ?_ | refine RegS.step ?_ | refine RegXS.step ?_); (conv => whnf)))
  refine loopG (σ := List Int × List Int) (nn := 92) hM (by kernel_rfl)
    (fun (d, r) h2 => h2 = h ∧ d ++ r = l ∧ countU d + countU r = countU l)
    (fun (d, _) => [(0, .pointer (some ⟨gg, 0, none⟩)), (3, u8 (controlL k)), (5, u8 y), (7, .int .i64 (Int.ofNat (countU d))), (54, .slice (some ⟨gi, 0, none⟩) l.length l.length), (55, .int .i64 (Int.ofNat l.length)), (56, .int .i64 (Int.ofNat d.length))]) (fun (_, r) => r.length) rfl
    ⟨([], l), ⟨rfl, rfl, by simp [countU]⟩, rfl, rfl, rfl, rfl, rfl, rfl, rfl, trivial⟩ ?_
  rintro ⟨d, r⟩ base h2 ⟨rfl, L2, I2⟩
  ((conv => whnf); repeat ((first | refine CodeS.step ?_ | refine RegS.step ?_ | refine RegXS.step ?_); (conv => whnf)))
  refine ⟨_, rfl, fun hc => ?_, fun hc => ?_⟩
  · replace hc := lt_of_ltI hc
    cases r with
    | nil => simp at L2; subst L2; omega
    | cons x r =>
      have Gi : h2.get gi = some (.cells (vals (d ++ x :: r)) false) := by rw [L2]; exact G.i
      ((conv => whnf); repeat ((first | refine CodeS.step ?_ | refine RegS.step ?_ | refine RegXS.step ?_); (conv => whnf)))
      refine indexK rfl rfl rfl rfl hc ?_
      ((conv => whnf); repeat ((first | refine CodeS.step ?_ | refine RegS.step ?_ | refine RegXS.step ?_); (conv => whnf)))
      refine ⟨_, loadK rfl Gi rfl (vals_at d r x), ?_⟩
      ((conv => whnf); repeat ((first | refine CodeS.step ?_ | refine RegS.step ?_ | refine RegXS.step ?_); (conv => whnf)))
      have hd : countU d ≤ d.length := countU_le d
      have hll : d.length + 1 ≤ l.length := hc
      have hsn := countU_snoc x d
      rw [countU] at I2
      refine ⟨_, rfl, fun hc => ?_, fun hc => ?_⟩
      · rw [hc, if_pos rfl] at hsn
        rw [hc, if_pos rfl] at I2
        ((conv => whnf); repeat ((first | refine CodeS.step ?_ | refine RegS.step ?_ | refine RegXS.step ?_); (conv => whnf)))
        refine ⟨_, addK (b := 1) rfl rfl (by omega), ?_⟩; ((conv => whnf); repeat ((first | refine CodeS.step ?_ | refine RegS.step ?_ | refine RegXS.step ?_); (conv => whnf)))
        refine ⟨_, addK (b := 1) rfl rfl (by omega), ?_⟩; ((conv => whnf); repeat ((first | refine CodeS.step ?_ | refine RegS.step ?_ | refine RegXS.step ?_); (conv => whnf)))
        exact ⟨(d ++ [x], r), by simp, ⟨rfl, by simpa using L2, by rw [hsn]; omega⟩, rfl, rfl, rfl, by rw [hsn]; rfl, rfl, rfl, by simp; rfl, trivial⟩
      · rw [hc, if_neg (by simp)] at hsn
        rw [hc, if_neg (by simp)] at I2
        ((conv => whnf); repeat ((first | refine CodeS.step ?_ | refine RegS.step ?_ | refine RegXS.step ?_); (conv => whnf)))
        refine ⟨_, addK (b := 1) rfl rfl (by omega), ?_⟩; ((conv => whnf); repeat ((first | refine CodeS.step ?_ | refine RegS.step ?_ | refine RegXS.step ?_); (conv => whnf)))
        exact ⟨(d ++ [x], r), by simp, ⟨rfl, by simpa using L2, by rw [hsn]; omega⟩, rfl, rfl, rfl, by rw [hsn]; rfl, rfl, rfl, by simp; rfl, trivial⟩
  · replace hc := ge_of_ltI hc
    cases r with
    | cons x r => have := congrArg List.length L2; simp at this; omega
    | nil =>
      have I3 : countU d = countU l := by rw [← I2]; rfl
      rw [I3]
      ((conv => whnf); repeat ((first | refine CodeS.step ?_ | refine RegS.step ?_ | refine RegXS.step ?_); (conv => whnf)))
      refine ⟨_, rfl, fun hc => ?_, fun hc => ?_⟩
      · rw [if_pos (by simpa using hc)] at hR
        ((conv => whnf); repeat ((first | refine CodeS.step ?_ | refine RegS.step ?_ | refine RegXS.step ?_); (conv => whnf)))
        obtain ⟨h3, c3, G3, S3⟩ := put_ok hk hy0 G
        refine ⟨_, h3, c3, ?_⟩
        ((conv => whnf); repeat ((first | refine CodeS.step ?_ | refine RegS.step ?_ | refine RegXS.step ?_); (conv => whnf)))
        subst hR
        exact ⟨rfl, G3, S3⟩
      rw [if_neg (by simpa using hc)] at hR
      ((conv => whnf); repeat ((first | refine CodeS.step ?_ | refine RegS.step ?_ | refine RegXS.step ?_); (conv => whnf)))
      refine ⟨_, rfl, fun hc => ?_, fun hc => ?_⟩
      · have h1 : countU l = 1 := by have := eq_of_beq hc; simp only [Int.ofNat_eq_natCast] at this; omega
        rw [hc]
        ((conv => whnf); repeat ((first | refine CodeS.step ?_ | refine RegS.step ?_ | refine RegXS.step ?_); (conv => whnf)))
        refine ⟨_, _, hidden_ok hk ho G, ?_⟩; ((conv => whnf); repeat ((first | refine CodeS.step ?_ | refine RegS.step ?_ | refine RegXS.step ?_); (conv => whnf)))
        refine ⟨_, rfl, fun hc => ?_, fun hc => ?_⟩
        · rw [if_pos ⟨h1, hc⟩] at hR
          obtain ⟨i, e1, e2⟩ := find_count l (by omega)
          rw [e1] at hR
          have hi : i < l.length := (List.getElem?_eq_some_iff.1 e2).1
          have hv : (vals l)[0 + i * 1]? = some (u8 2) := by
            unfold vals
            rw [Nat.zero_add, Nat.mul_one, List.getElem?_map, e2]; rfl
          ((conv => whnf); repeat ((first | refine CodeS.step ?_ | refine RegS.step ?_ | refine RegXS.step ?_); (conv => whnf)))
          refine ⟨_, loadK rfl G.g rfl rfl, ?_⟩; ((conv => whnf); repeat ((first | refine CodeS.step ?_ | refine RegS.step ?_ | refine RegXS.step ?_); (conv => whnf)))
          refine ⟨.inr (.inr (loadK rfl G.g rfl rfl)), ?_⟩
          ((conv => whnf); repeat ((first | refine CodeS.step ?_ | refine RegS.step ?_ | refine RegXS.step ?_); (conv => whnf)))
          refine ⟨_, loadK rfl G.g rfl rfl, ?_⟩; ((conv => whnf); repeat ((first | refine CodeS.step ?_ | refine RegS.step ?_ | refine RegXS.step ?_); (conv => whnf)))
          refine ⟨.inr (.inr (loadK rfl G.g rfl rfl)), ?_⟩
          ((conv => whnf); repeat ((first | refine CodeS.step ?_ | refine RegS.step ?_ | refine RegXS.step ?_); (conv => whnf)))
          refine ⟨_, _, index_ok G.sl hn 2, ?_⟩; ((conv => whnf); repeat ((first | refine CodeS.step ?_ | refine RegS.step ?_ | refine RegXS.step ?_); (conv => whnf)))
          refine ⟨.inl (Ext.refl _), ?_⟩; ((conv => whnf); repeat ((first | refine CodeS.step ?_ | refine RegS.step ?_ | refine RegXS.step ?_); (conv => whnf)))
          rw [e1]
          ((conv => whnf); repeat ((first | refine CodeS.step ?_ | refine RegS.step ?_ | refine RegXS.step ?_); (conv => whnf)))
          refine indexK rfl rfl rfl rfl hi ?_
          ((conv => whnf); repeat ((first | refine CodeS.step ?_ | refine RegS.step ?_ | refine RegXS.step ?_); (conv => whnf)))
          obtain ⟨h3, c3, u3⟩ := set_ok (y := controlL k) G.i hv
          have hs : (vals l).set (0 + i * 1) (u8 (controlL k)) = vals (l.set i (controlL k)) := by
            unfold vals
            rw [Nat.zero_add, Nat.mul_one, List.map_set]
          have u4 : Upd h2 gi (.cells (vals (l.set i (controlL k))) false) h3 := by rw [← hs]; exact u3
          obtain ⟨G3, S3⟩ := G.inp (l1 := l.set i (controlL k)) (by simp) u4
          refine ⟨_, h3, c3, ?_⟩
          ((conv => whnf); repeat ((first | refine CodeS.step ?_ | refine RegS.step ?_ | refine RegXS.step ?_); (conv => whnf)))
          refine ⟨.inr (by kernel_rfl), ?_⟩
          ((conv => whnf); repeat ((first | refine CodeS.step ?_ | refine RegS.step ?_ | refine RegXS.step ?_); (conv => whnf)))
          subst hR
          exact ⟨rfl, G3, S3⟩
        · rw [if_neg (by rw [hc]; simp)] at hR
          ((conv => whnf); repeat ((first | refine CodeS.step ?_ | refine RegS.step ?_ | refine RegXS.step ?_); (conv => whnf)))
          subst hR
          exact ⟨rfl, G, GStep.refl _ _ _⟩
      · have h1 : countU l ≠ 1 := by have := (beq_eq_false_iff_ne.1 hc); simp only [Int.ofNat_eq_natCast] at this; omega
        rw [if_neg (fun q => h1 q.1)] at hR
        rw [hc]
        ((conv => whnf); repeat ((first | refine CodeS.step ?_ | refine RegS.step ?_ | refine RegXS.step ?_); (conv => whnf)))
        refine ⟨false, rfl, (fun hc => nomatch hc), fun _ => ?_⟩; ((conv => whnf); repeat ((first | refine CodeS.step ?_ | refine RegS.step ?_ | refine RegXS.step ?_); (conv => whnf)))
        subst hR
        exact ⟨rfl, G, GStep.refl _ _ _⟩
end
end Go.Proofs.YtedefohdeignpaaDoor
