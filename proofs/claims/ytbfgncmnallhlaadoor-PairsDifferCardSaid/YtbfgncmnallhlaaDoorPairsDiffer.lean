/-
  The law PairsDiffer: its walk.
-/
import Derived.Test.YtbfgncmnallhlaaDoorPairsFive
import Derived.Test.YtbfgncmnallhlaaDoorAbsZ
namespace Go.Proofs.YtbfgncmnallhlaaDoor
open Go.Abs
set_option maxRecDepth 100000

/-! ### what is read alike is answered alike -/

theorem read_known (a : Int) : (readL a ≤ 1 ↔ a ≤ 1) ∧ (a ≤ 1 → readL a = a) := by unfold readL; split <;> omega
theorem not_read (a : Int) : notL a = notL (readL a) := by
  unfold notL
  by_cases h : a ≤ 1
  · rw [(read_known a).2 h]
  · rw [if_neg h, if_neg (fun q => h ((read_known a).1.1 q))]
theorem read_read (a : Int) : readL (readL a) = readL a := by unfold readL; split <;> simp_all
theorem read_eq {a b : Int} (h : readL a = readL b) {c : Int} (hc : c ≤ 1) : (a = c ↔ b = c) := by
  constructor
  · intro e; subst e
    have := (read_known a).2 hc
    have hb : b ≤ 1 := (read_known b).1.1 (by omega)
    have := (read_known b).2 hb
    omega
  · intro e; subst e
    have := (read_known b).2 hc
    have ha : a ≤ 1 := (read_known a).1.1 (by omega)
    have := (read_known a).2 ha
    omega

def Alike (a b : Int) : Prop := readL a = readL b
theorem decided_alike {low high : Int} (h0 : low ≤ 1) (h1 : high ≤ 1) {l m : List Int} (h : All2 Alike l m) : ∀ o, decidedGo low high l o = decidedGo low high m o := by
  induction h with
  | nil => intro o; rfl
  | cons r _ ih =>
    intro o
    unfold decidedGo
    have e1 := read_eq r h0
    have e2 := read_eq r h1
    simp only [e1, e2, ih]
theorem xor_alike {l m : List Int} (h : All2 Alike l m) : ∀ o, xorGo l o = xorGo m o := by
  induction h with
  | nil => intro o; rfl
  | cons r _ ih =>
    rename_i a b _ _ _
    intro o
    unfold xorGo
    by_cases k : a ≤ 1
    · have e1 := (read_known a).2 k
      have kb : b ≤ 1 := (read_known b).1.1 (by rw [← r]; omega)
      have e2 := (read_known b).2 kb
      have : a = b := by rw [← e1, ← e2]; exact r
      subst this
      rw [if_pos k, if_pos k, ih]
    · have kb : ¬ b ≤ 1 := fun q => k ((read_known a).1.1 (by rw [r]; exact (read_known b).1.2 q))
      rw [if_neg k, if_neg kb]
theorem mux_alike {s s' a a' b b' : Int} (hs : Alike s s') (ha : Alike a a') (hb : Alike b b') : muxL s a b = muxL s' a' b' := by
  unfold muxL
  rw [show readL a = readL a' from ha, show readL b = readL b' from hb]
  simp only [read_eq hs (c := 0) (by decide), read_eq hs (c := 1) (by decide)]
  split
  · rfl
  · split
    · rfl
    · by_cases k : a' ≤ 1
      · have e : (a = b ↔ a' = b') := by
          have e1 := (read_known a').2 k
          have ka : a ≤ 1 := (read_known a).1.1 (by rw [show readL a = readL a' from ha]; omega)
          have e2 := (read_known a).2 ka
          have haa : a = a' := by rw [← e2, ← e1]; exact ha
          subst haa
          constructor
          · intro q; exact ((read_eq hb (c := a) k).1 q.symm).symm
          · intro q; exact ((read_eq hb (c := a) k).2 q.symm).symm
        simp only [e]
      · have : readL a' = 2 := by
          unfold readL
          split
          · rfl
          · omega
        rw [this]
        simp
theorem tri_alike {e e' d d' : Int} (he : Alike e e') (hd : Alike d d') : triL e d = triL e' d' := by
  unfold triL
  rw [show readL d = readL d' from hd]
  simp only [read_eq he (c := 0) (by decide), read_eq he (c := 1) (by decide)]

def CAlike (a b : Int) : Prop := cleanL a = cleanL b
theorem clean_eq {a b : Int} (h : cleanL a = cleanL b) {c : Int} (hc : c = 0 ∨ c = 1 ∨ c = 3) : (a = c ↔ b = c) := by
  unfold cleanL at h
  split at h <;> split at h <;> omega

theorem beq_of_iff {a b c : Int} (h : a = c ↔ b = c) : (a == c) = (b == c) := by
  rw [Bool.eq_iff_iff]; simp [h]

theorem bus_alike {l m : List Int} (h : All2 CAlike l m) : busL l = busL m := by
  have f3 : l.findIdx? (fun v => v != 3) = m.findIdx? (fun v => v != 3) := by
    induction h with
    | nil => rfl
    | cons r _ ih =>
      rename_i a b _ _ _
      have e : (a != 3) = (b != 3) := by unfold bne; rw [beq_of_iff (clean_eq r (c := 3) (.inr (.inr rfl)))]
      rw [List.findIdx?_cons, List.findIdx?_cons, ih, e]
  have anyc : ∀ c : Int, (c = 0 ∨ c = 1 ∨ c = 3) → (l.any fun y => c == y) = (m.any fun y => c == y) := by
    intro c hc
    clear f3
    induction h with
    | nil => rfl
    | cons r _ ih =>
      rename_i a b _ _ _
      have e : (c == a) = (c == b) := by rw [BEq.comm (a := c) (b := a), BEq.comm (a := c) (b := b), beq_of_iff (clean_eq r hc)]
      rw [List.any_cons, List.any_cons, ih, e]
  have any2 : (l.any fun v => cleanL v == 2) = (m.any fun v => cleanL v == 2) := by
    clear f3 anyc
    induction h with
    | nil => rfl
    | cons r _ ih => simp only [List.any_cons, ih, show cleanL _ = cleanL _ from r]
  unfold busL conflictL
  rw [f3, anyc 0 (.inl rfl), anyc 1 (.inr (.inl rfl)), any2]
  cases e : m.findIdx? (fun v => v != 3) with
  | none => rfl
  | some i =>
    simp only
    by_cases hu : (((m.any fun y => (0 : Int) == y) && m.any fun y => (1 : Int) == y) || m.any fun v => cleanL v == 2) = true
    · rw [if_pos hu, if_pos hu]
    · rw [if_neg hu, if_neg hu]
      have hr : CAlike (l.getD i 0) (m.getD i 0) := h.get i 0 rfl
      rw [Bool.not_eq_true, Bool.or_eq_false_iff] at hu
      have hi : i < m.length := by rw [List.findIdx?_eq_some_iff_getElem] at e; exact e.1
      have hm : m.getD i 0 ∈ m := by
        rw [List.getD_eq_getElem?_getD, List.getElem?_eq_getElem hi]
        exact List.getElem_mem hi
      have hn : cleanL (m.getD i 0) ≠ 2 := by
        have := List.any_eq_false.1 hu.2 _ hm
        simpa using this
      unfold CAlike at hr
      unfold cleanL at hr hn
      split at hr <;> split at hr <;> split at hn <;> omega

theorem eval_alike {k : Int} (hk : k ≠ 13) {l m : List Int} (h : All2 Alike l m) : evalL k l = evalL k m := by
  have g : ∀ i, Alike (l.getD i 0) (m.getD i 0) := fun i => h.get i 0 rfl
  unfold evalL andL orL xorL
  rw [h.length, decided_alike (by decide) (by decide) h, decided_alike (by decide) (by decide) h, xor_alike h, show readL (l.getD 0 0) = readL (m.getD 0 0) from g 0, not_read (l.getD 0 0), not_read (m.getD 0 0), show readL (l.getD 0 0) = readL (m.getD 0 0) from g 0, mux_alike (g 0) (g 1) (g 2), tri_alike (g 0) (g 1), if_neg hk, if_neg hk]
theorem eval_alike13 {l m : List Int} (h : All2 CAlike l m) : evalL 13 l = evalL 13 m := by
  have e : ∀ l : List Int, evalL 13 l = if (l.length : Int) < 1 then 2 else if 16 < (l.length : Int) then 2 else busL l := fun l => rfl
  rw [e, e, h.length, bus_alike h]

/-- A gate reads a pair's sides differently. -/
def someAt (k : Int) (q : Int × Int) : Bool := (cleanL q.1 != cleanL q.2) && (k == 13 || readL q.1 != readL q.2)

theorem clean_read {a b : Int} (h : cleanL a = cleanL b) : readL a = readL b := by
  unfold cleanL at h
  unfold readL
  split at h <;> split at h <;> split <;> split <;> omega

theorem differs_some {k : Int} {l : List (Int × Int)} (h : differsL (pevalL k l).1 (pevalL k l).2 = true) : l.any (someAt k) = true := by
  apply Classical.byContradiction
  intro hn
  rw [Bool.not_eq_true, List.any_eq_false] at hn
  have e : (pevalL k l).1 = (pevalL k l).2 := by
    unfold pevalL
    by_cases hk : k = 13
    · subst hk
      refine eval_alike13 (All2.of_get (by simp) fun i x y hx hy => ?_)
      rw [List.getElem?_map] at hx hy
      obtain ⟨q, hq, rfl⟩ := Option.map_eq_some_iff.1 hx
      rw [hq] at hy
      cases hy
      have := hn q (List.mem_of_getElem? hq)
      have hq2 : cleanL q.1 = cleanL q.2 := by simpa [someAt] using this
      exact hq2
    · refine eval_alike hk (All2.of_get (by simp) fun i x y hx hy => ?_)
      rw [List.getElem?_map] at hx hy
      obtain ⟨q, hq, rfl⟩ := Option.map_eq_some_iff.1 hx
      rw [hq] at hy
      cases hy
      have := hn q (List.mem_of_getElem? hq)
      have hkb : (k == 13) = false := by simpa using hk
      simp only [someAt, hkb, Bool.false_or, Bool.and_eq_true, bne_iff_ne, ne_eq, not_and, Decidable.not_not] at this
      by_cases hc : cleanL q.1 = cleanL q.2
      · exact clean_read hc
      · exact this hc
  rw [e] at h
  generalize (pevalL k l).2 = x at h
  unfold differsL eqP at h
  by_cases h1 : x = 1
  · subst h1; cases h
  · by_cases h0 : x = 0
    · subst h0; cases h
    · simp [h1, h0] at h

/-! ### one input that differs -/

theorem dec_low {low high : Int} : ∀ (l : List Int) (acc : Int), low ∈ l → decidedGo low high l acc = low
  | [], _, h => by simp at h
  | v :: r, acc, h => by
    unfold decidedGo
    by_cases e : v = low
    · rw [if_pos e]
    · rw [if_neg e]
      exact dec_low r _ (by simpa [Ne.symm e] using h)
theorem dec_high {low high : Int} (hne : high ≠ low) : ∀ (l : List Int) (acc : Int), (∀ x ∈ l, x = high) → decidedGo low high l acc = acc
  | [], _, _ => rfl
  | v :: r, acc, h => by
    have hv := h v (by simp)
    unfold decidedGo
    rw [if_neg (by rw [hv]; exact hne), if_pos hv]
    exact dec_high hne r _ (fun x hx => h x (by simp [hx]))

theorem set_mem {α : Type} {l : List α} {j : Nat} {x : α} (h : j < l.length) : x ∈ l.set j x := by
  have : (l.set j x)[j]? = some x := by simp [h]
  exact List.mem_of_getElem? this
theorem set_all {α : Type} {p : α → Prop} {l : List α} {j : Nat} {x : α} (hl : ∀ y ∈ l, p y) (hx : p x) : ∀ y ∈ l.set j x, p y := by
  intro y hy
  rcases List.mem_or_eq_of_mem_set hy with h | h
  · exact hl y h
  · rw [h]; exact hx

/-- The gate's inputs: all hold the value that does not control, one the difference. -/
def oneDiff (k : Int) (n j : Nat) : List (Int × Int) := (List.replicate n (1 - controlL k, 1 - controlL k)).set j (1, 0)
theorem oneDiff_len (k : Int) (n j : Nat) : (oneDiff k n j).length = n := by simp [oneDiff]

theorem evalGate {k : Int} {l : List Int} (h2 : 2 ≤ l.length) (h16 : l.length ≤ 16) (hk : k = 5 ∨ k = 6 ∨ k = 7 ∨ k = 8) :
    evalL k l = if k = 5 then andL l else if k = 6 then notL (andL l) else if k = 7 then orL l else notL (orL l) := by
  rcases hk with rfl | rfl | rfl | rfl
  all_goals
    unfold evalL
    rw [if_neg (show ¬ (l.length : Int) < loL _ by show ¬ (l.length : Int) < 2; omega), if_neg (show ¬ hiL _ < (l.length : Int) by show ¬ (16 : Int) < l.length; omega)]
    rfl

theorem oneDiff_out {k : Int} {n j : Nat} (h2 : 2 ≤ n) (h16 : n ≤ 16) (hj : j < n) (hk : k = 5 ∨ k = 6 ∨ k = 7 ∨ k = 8) : pevalL k (oneDiff k n j) = if invertsL k = true then (0, 1) else (1, 0) := by
  have l1 : ∀ f : Int × Int → Int, ((oneDiff k n j).map f).length = n := fun f => by simp [oneDiff]
  unfold pevalL
  rw [evalGate (by rw [l1]; exact h2) (by rw [l1]; exact h16) hk, evalGate (by rw [l1]; exact h2) (by rw [l1]; exact h16) hk]
  have m1 : (1 : Int) ∈ (oneDiff k n j).map fun q => q.1 := List.mem_map.2 ⟨_, set_mem (by simpa using hj), rfl⟩
  have m2 : (0 : Int) ∈ (oneDiff k n j).map fun q => q.2 := List.mem_map.2 ⟨_, set_mem (by simpa using hj), rfl⟩
  have a1 : ∀ v : Int, 1 - controlL k = v → v = 1 → ∀ x ∈ (oneDiff k n j).map fun q => q.1, x = 1 := by
    intro v hv h1 x hx
    obtain ⟨q, hq, rfl⟩ := List.mem_map.1 hx
    exact set_all (p := fun q : Int × Int => q.1 = 1) (fun y hy => by rw [(List.mem_replicate.1 hy).2]; omega) rfl q hq
  have a2 : ∀ v : Int, 1 - controlL k = v → v = 0 → ∀ x ∈ (oneDiff k n j).map fun q => q.2, x = 0 := by
    intro v hv h1 x hx
    obtain ⟨q, hq, rfl⟩ := List.mem_map.1 hx
    exact set_all (p := fun q : Int × Int => q.2 = 0) (fun y hy => by rw [(List.mem_replicate.1 hy).2]; omega) rfl q hq
  rcases hk with rfl | rfl | rfl | rfl
  · have e1 : andL ((oneDiff 5 n j).map fun q => q.1) = 1 := dec_high (by decide) _ _ (a1 1 rfl rfl)
    have e2 : andL ((oneDiff 5 n j).map fun q => q.2) = 0 := dec_low _ _ m2
    rw [e1, e2]; rfl
  · have e1 : andL ((oneDiff 6 n j).map fun q => q.1) = 1 := dec_high (by decide) _ _ (a1 1 rfl rfl)
    have e2 : andL ((oneDiff 6 n j).map fun q => q.2) = 0 := dec_low _ _ m2
    rw [e1, e2]; rfl
  · have e1 : orL ((oneDiff 7 n j).map fun q => q.1) = 1 := dec_low _ _ m1
    have e2 : orL ((oneDiff 7 n j).map fun q => q.2) = 0 := dec_high (by decide) _ _ (a2 0 rfl rfl)
    rw [e1, e2]; rfl
  · have e1 : orL ((oneDiff 8 n j).map fun q => q.1) = 1 := dec_low _ _ m1
    have e2 : orL ((oneDiff 8 n j).map fun q => q.2) = 0 := dec_high (by decide) _ _ (a2 0 rfl rfl)
    rw [e1, e2]; rfl

theorem masked_out {k : Int} {n j i : Nat} (h2 : 2 ≤ n) (h16 : n ≤ 16) (hi : i < n) (hk : k = 5 ∨ k = 6 ∨ k = 7 ∨ k = 8) :
    differsL (pevalL k ((oneDiff k n j).set i (controlL k, controlL k))).1 (pevalL k ((oneDiff k n j).set i (controlL k, controlL k))).2 = false := by
  have l1 : ∀ f : Int × Int → Int, (((oneDiff k n j).set i (controlL k, controlL k)).map f).length = n := fun f => by simp [oneDiff]
  unfold pevalL
  rw [evalGate (by rw [l1]; exact h2) (by rw [l1]; exact h16) hk, evalGate (by rw [l1]; exact h2) (by rw [l1]; exact h16) hk]
  have m1 : controlL k ∈ ((oneDiff k n j).set i (controlL k, controlL k)).map fun q => q.1 := List.mem_map.2 ⟨_, set_mem (by rw [oneDiff_len]; exact hi), rfl⟩
  have m2 : controlL k ∈ ((oneDiff k n j).set i (controlL k, controlL k)).map fun q => q.2 := List.mem_map.2 ⟨_, set_mem (by rw [oneDiff_len]; exact hi), rfl⟩
  rcases hk with rfl | rfl | rfl | rfl
  · have e1 : andL _ = 0 := dec_low _ _ m1
    have e2 : andL _ = 0 := dec_low _ _ m2
    rw [e1, e2]; rfl
  · have e1 : andL _ = 0 := dec_low _ _ m1
    have e2 : andL _ = 0 := dec_low _ _ m2
    rw [e1, e2]; rfl
  · have e1 : orL _ = 1 := dec_low _ _ m1
    have e2 : orL _ = 1 := dec_low _ _ m2
    rw [e1, e2]; rfl
  · have e1 : orL _ = 1 := dec_low _ _ m1
    have e2 : orL _ = 1 := dec_low _ _ m2
    rw [e1, e2]; rfl
end Go.Proofs.YtbfgncmnallhlaaDoor
