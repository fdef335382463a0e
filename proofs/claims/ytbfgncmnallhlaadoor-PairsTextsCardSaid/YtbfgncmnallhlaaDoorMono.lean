/-
  Plain laws of the gates: what is below stays below; what a gate reads alike it answers alike.
-/
import Derived.Test.YtbfgncmnallhlaaDoorPairs2
namespace Go.Proofs.YtbfgncmnallhlaaDoor
open Go.Abs
set_option maxRecDepth 100000

inductive All2 {α : Type} (R : α → α → Prop) : List α → List α → Prop
  | nil : All2 R [] []
  | cons {a b : α} {l m : List α} : R a b → All2 R l m → All2 R (a :: l) (b :: m)

theorem All2.length {α : Type} {R : α → α → Prop} {l m : List α} (h : All2 R l m) : l.length = m.length := by
  induction h with
  | nil => rfl
  | cons _ _ ih => simp [ih]

theorem All2.get {α : Type} {R : α → α → Prop} {l m : List α} (h : All2 R l m) : ∀ (i : Nat) (d : α), R d d → R (l.getD i d) (m.getD i d) := by
  induction h with
  | nil => intro i d hd; simpa using hd
  | cons r _ ih =>
    intro i d hd
    cases i with
    | zero => simpa using r
    | succ i => simpa using ih i d hd

theorem All2.of_get {α : Type} {R : α → α → Prop} : ∀ {l m : List α}, l.length = m.length → (∀ (i : Nat) a b, l[i]? = some a → m[i]? = some b → R a b) → All2 R l m
  | [], [], _, _ => .nil
  | a :: l, b :: m, h, hr => .cons (hr 0 a b rfl rfl) (All2.of_get (by simpa using h) fun i x y e1 e2 => hr (i + 1) x y (by simpa using e1) (by simpa using e2))
  | [], _ :: _, h, _ => by simp at h
  | _ :: _, [], h, _ => by simp at h

def Below (a b : Int) : Prop := cleanL a = cleanL b ∨ cleanL a = 2
theorem below_iff {a b : Int} : belowL a b = true ↔ Below a b := by simp [belowL, Below]
theorem Below.refl (a : Int) : Below a a := .inl rfl
theorem Below.bot {a b : Int} (h : cleanL a = 2) : Below a b := .inr h
theorem Below.trans {a b c : Int} (h : Below a b) (g : Below b c) : Below a c := by
  rcases h with h | h
  · rcases g with g | g
    · exact .inl (h.trans g)
    · exact .inr (h.trans g)
  · exact .inr h
theorem clean_idem (a : Int) : cleanL (cleanL a) = cleanL a := by unfold cleanL; split <;> simp_all
theorem below_known {a b : Int} (h : Below a b) (ha : a = 0 ∨ a = 1) : b = a := by
  unfold Below cleanL at h
  split at h <;> split at h <;> omega
theorem below_three {a b : Int} (h : Below a b) (ha : a = 3) : b = 3 := by
  unfold Below cleanL at h
  split at h <;> split at h <;> omega
theorem two_bot (b : Int) : Below 2 b := .inr rfl

theorem decided_two {low high : Int} : ∀ l : List Int, decidedGo low high l 2 = low ∨ decidedGo low high l 2 = 2
  | [] => .inr rfl
  | v :: r => by
    unfold decidedGo
    split
    · exact .inl rfl
    · rw [ite_self]; exact decided_two r

theorem decided_mono {low high : Int} (hl : low = 0 ∨ low = 1) (hh : high = 0 ∨ high = 1) {l m : List Int} (h : All2 Below l m) : ∀ (o o' : Int), (o = o' ∨ o = 2) → Below (decidedGo low high l o) (decidedGo low high m o') := by
  induction h with
  | nil =>
    intro o o' ho
    rcases ho with rfl | rfl
    · exact .refl _
    · exact two_bot _
  | cons r _ ih =>
    rename_i a b l m _
    intro o o' ho
    unfold decidedGo
    by_cases h1 : a = low
    · have := below_known r (by rw [h1]; exact hl)
      subst this
      rw [if_pos h1, if_pos h1]
      exact .refl _
    · rw [if_neg h1]
      by_cases h2 : a = high
      · have := below_known r (by rw [h2]; exact hh)
        subst this
        rw [if_neg h1, if_pos h2, if_pos h2]
        exact ih o o' ho
      · rw [if_neg h2]
        by_cases h3 : b = low
        · rw [if_pos h3]
          rcases decided_two (low := low) (high := high) l with q | q
          · rw [q]; exact .refl _
          · rw [q]; exact two_bot _
        · rw [if_neg h3]
          exact ih 2 _ (.inr rfl)

theorem xor_mono {l m : List Int} (h : All2 Below l m) (hl : ∀ x ∈ l, 0 ≤ x) : ∀ o : Int, Below (xorGo l o) (xorGo m o) := by
  induction h with
  | nil => intro o; exact .refl _
  | cons r _ ih =>
    rename_i a b l m _
    intro o
    unfold xorGo
    by_cases h1 : a ≤ 1
    · have h0 := hl a (by simp)
      have := below_known r (by omega)
      subst this
      rw [if_pos h1, if_pos h1]
      exact ih (fun x hx => hl x (by simp [hx])) _
    · rw [if_neg h1]; exact two_bot _

theorem not_mono {a b : Int} (h : Below a b) (ha : 0 ≤ a) : Below (notL a) (notL b) := by
  by_cases h1 : a ≤ 1
  · have := below_known h (by omega)
    rw [this]; exact .refl _
  · have : notL a = 2 := by unfold notL; rw [if_neg h1]
    rw [this]; exact two_bot _
theorem read_mono {a b : Int} (h : Below a b) (ha : 0 ≤ a) : Below (readL a) (readL b) := by
  by_cases h1 : a ≤ 1
  · have := below_known h (by omega)
    rw [this]; exact .refl _
  · have : readL a = 2 := by unfold readL; split <;> omega
    rw [this]; exact two_bot _

theorem mux_mono {s s' a a' b b' : Int} (hs : Below s s') (ha : Below a a') (hb : Below b b') (h0 : 0 ≤ a) (h1 : 0 ≤ b) : Below (muxL s a b) (muxL s' a' b') := by
  unfold muxL
  by_cases c0 : s = 0
  · have := below_known hs (.inl c0)
    rw [if_pos c0, if_pos (by omega)]; exact read_mono ha h0
  by_cases c1 : s = 1
  · have := below_known hs (.inr c1)
    rw [if_neg c0, if_pos c1, if_neg (by omega), if_pos (by omega)]; exact read_mono hb h1
  rw [if_neg c0, if_neg c1]
  by_cases c2 : a = b
  · rw [if_pos c2]
    by_cases k : a ≤ 1
    · have e1 := below_known ha (by omega)
      have e2 := below_known hb (by omega)
      have : readL a = readL a' := by rw [e1]
      split
      · rw [this]; exact .refl _
      · split
        · rw [e2, ← c2]; exact .refl _
        · rw [if_pos (by omega), this]; exact .refl _
    · have : readL a = 2 := by unfold readL; split <;> omega
      rw [this]; exact two_bot _
  · rw [if_neg c2]; exact two_bot _

theorem tri_mono {e e' d d' : Int} (he : Below e e') (hd : Below d d') (h0 : 0 ≤ d) : Below (triL e d) (triL e' d') := by
  unfold triL
  by_cases c0 : e = 0
  · have := below_known he (.inl c0)
    rw [if_pos c0, if_pos (by omega)]; exact .refl _
  by_cases c1 : e = 1
  · have := below_known he (.inr c1)
    rw [if_neg c0, if_pos c1, if_neg (by omega), if_pos (by omega)]; exact read_mono hd h0
  rw [if_neg c0, if_neg c1]; exact two_bot _

theorem eq_of_known {l m : List Int} (h : All2 Below l m) (hk : ∀ x ∈ l, x = 0 ∨ x = 1 ∨ x = 3) : l = m := by
  induction h with
  | nil => rfl
  | cons r _ ih =>
    rename_i a b l m _
    have ha := hk a (by simp)
    have : b = a := by
      rcases ha with q | q | q
      · exact below_known r (.inl q)
      · exact below_known r (.inr q)
      · rw [q]; exact below_three r q
    rw [this, ih fun x hx => hk x (by simp [hx])]

theorem bus_mono {l m : List Int} (h : All2 Below l m) (hl : ∀ x ∈ l, 0 ≤ x) : Below (busL l) (busL m) := by
  by_cases hu : ∀ x ∈ l, x = 0 ∨ x = 1 ∨ x = 3
  · rw [eq_of_known h hu]; exact .refl _
  · have : busL l = 2 := by
      have : ∃ x ∈ l, ¬ (x = 0 ∨ x = 1 ∨ x = 3) := by
        apply Classical.byContradiction
        intro hc
        exact hu fun x hx => Classical.byContradiction fun hn => hc ⟨x, hx, hn⟩
      obtain ⟨x, hx, hn⟩ := this
      have h0 := hl x hx
      have hcl : cleanL x = 2 := by unfold cleanL; split <;> omega
      have hany : (l.any fun v => cleanL v == 2) = true := by rw [List.any_eq_true]; exact ⟨x, hx, by simp [hcl]⟩
      unfold busL
      cases e : l.findIdx? fun v => v != 3 with
      | none =>
        rw [List.findIdx?_eq_none_iff] at e
        have := e x hx
        simp at this
        omega
      | some i => simp [hany]
    rw [this]; exact two_bot _

theorem below_ite {c : Prop} [Decidable c] {a b a' b' : Int} (h1 : Below a a') (h2 : Below b b') : Below (if c then a else b) (if c then a' else b') := by
  split
  · exact h1
  · exact h2

theorem eval_mono (k : Int) {l m : List Int} (h : All2 Below l m) (hl : ∀ x ∈ l, 0 ≤ x) : Below (evalL k l) (evalL k m) := by
  have hlen := h.length
  have g : ∀ i, Below (l.getD i 0) (m.getD i 0) := fun i => h.get i 0 (.refl 0)
  have n : ∀ i, 0 ≤ l.getD i 0 := fun i => getD_nonneg hl i
  have ha : Below (andL l) (andL m) := decided_mono (.inl rfl) (.inr rfl) h _ _ (.inl rfl)
  have ho : Below (orL l) (orL m) := decided_mono (.inr rfl) (.inl rfl) h _ _ (.inl rfl)
  have hx : Below (xorL l) (xorL m) := xor_mono h hl _
  unfold evalL
  rw [hlen]
  refine below_ite (.refl _) (below_ite (.refl _) (below_ite (.refl _) (below_ite (.refl _) (below_ite (read_mono (g 0) (n 0)) (below_ite (not_mono (g 0) (n 0)) (below_ite ha (below_ite (not_mono ha (andL_nonneg l))
    (below_ite ho (below_ite (not_mono ho (orL_nonneg l)) (below_ite hx (below_ite (not_mono hx (xorL_nonneg l)) (below_ite (mux_mono (g 0) (g 1) (g 2) (n 1) (n 2)) (below_ite (tri_mono (g 0) (g 1) (n 1)) (below_ite (bus_mono h hl) (.refl _)))))))))))))))

/-! ### values that come out -/

theorem nn_ite {c : Prop} [Decidable c] {a b : Int} (h1 : 0 ≤ a) (h2 : 0 ≤ b) : 0 ≤ (if c then a else b) := by
  split
  · exact h1
  · exact h2
theorem muxL_nonneg {s a b : Int} (ha : 0 ≤ a) (hb : 0 ≤ b) : 0 ≤ muxL s a b := nn_ite (readL_nonneg ha) (nn_ite (readL_nonneg hb) (nn_ite (readL_nonneg ha) (by decide)))
theorem triL_nonneg {e d : Int} (hd : 0 ≤ d) : 0 ≤ triL e d := nn_ite (by decide) (nn_ite (readL_nonneg hd) (by decide))
theorem busL_nonneg {l : List Int} (hl : ∀ x ∈ l, 0 ≤ x) : 0 ≤ busL l := by
  unfold busL
  split
  · decide
  · exact nn_ite (by decide) (getD_nonneg hl _)
theorem evalL_nonneg (k : Int) {l : List Int} (hl : ∀ x ∈ l, 0 ≤ x) : 0 ≤ evalL k l := by
  have n : ∀ i, 0 ≤ l.getD i 0 := fun i => getD_nonneg hl i
  exact nn_ite (by decide) (nn_ite (by decide) (nn_ite (by decide) (nn_ite (by decide) (nn_ite (readL_nonneg (n 0)) (nn_ite notL_nonneg (nn_ite (andL_nonneg l) (nn_ite notL_nonneg (nn_ite (orL_nonneg l) (nn_ite notL_nonneg
    (nn_ite (xorL_nonneg l) (nn_ite notL_nonneg (nn_ite (muxL_nonneg (n 1) (n 2)) (nn_ite (triL_nonneg (n 1)) (nn_ite (busL_nonneg hl) (by decide)))))))))))))))
theorem pevalL_nonneg (k : Int) {l : List (Int × Int)} (hl : ∀ q ∈ l, 0 ≤ q.1 ∧ 0 ≤ q.2) : 0 ≤ (pevalL k l).1 ∧ 0 ≤ (pevalL k l).2 := by
  refine ⟨evalL_nonneg k ?_, evalL_nonneg k ?_⟩
  · intro x hx
    simp only [List.mem_map] at hx
    obtain ⟨q, hq, rfl⟩ := hx
    exact (hl q hq).1
  · intro x hx
    simp only [List.mem_map] at hx
    obtain ⟨q, hq, rfl⟩ := hx
    exact (hl q hq).2


theorem read_range {a : Int} (h : 0 ≤ a) : 0 ≤ readL a ∧ readL a ≤ 2 := by unfold readL; split <;> omega
theorem clean_range {a : Int} (h : 0 ≤ a) : 0 ≤ cleanL a ∧ cleanL a ≤ 3 := by unfold cleanL; split <;> omega

/-! ### pairs -/

def PBelow (p q : Int × Int) : Prop := Below p.1 q.1 ∧ Below p.2 q.2
theorem pbelow_iff {a b c d : Int} : pbelowL a b c d = true ↔ PBelow (a, b) (c, d) := by simp [pbelowL, PBelow, below_iff]

theorem All2.map {α β : Type} {R : α → α → Prop} {S : β → β → Prop} {f : α → β} (hf : ∀ a b, R a b → S (f a) (f b)) {l m : List α} (h : All2 R l m) : All2 S (l.map f) (m.map f) := by
  induction h with
  | nil => exact .nil
  | cons r _ ih => exact .cons (hf _ _ r) ih

theorem peval_mono (k : Int) {l m : List (Int × Int)} (h : All2 PBelow l m) (hl : ∀ q ∈ l, 0 ≤ q.1 ∧ 0 ≤ q.2) : PBelow (pevalL k l) (pevalL k m) := by
  refine ⟨eval_mono k (h.map fun _ _ r => r.1) ?_, eval_mono k (h.map fun _ _ r => r.2) ?_⟩
  · intro x hx
    simp only [List.mem_map] at hx
    obtain ⟨q, hq, rfl⟩ := hx
    exact (hl q hq).1
  · intro x hx
    simp only [List.mem_map] at hx
    obtain ⟨q, hq, rfl⟩ := hx
    exact (hl q hq).2
end Go.Proofs.YtbfgncmnallhlaaDoor
