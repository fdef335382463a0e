/-
  The law PairsJoin: its walk.
-/
import Derived.Test.YtbfgncmnallhlaaDoorPairsFive
namespace Go.Proofs.YtbfgncmnallhlaaDoor
open Go.Abs
set_option maxRecDepth 100000

section
variable {x y z : Int}
theorem join_comm (hx : 0 ≤ x ∧ x ≤ 3) (hy : 0 ≤ y ∧ y ≤ 3) : joinL x y = joinL y x := by
  rcases cases4 hx with rfl | rfl | rfl | rfl <;> rcases cases4 hy with rfl | rfl | rfl | rfl <;> rfl
theorem join_above (hx : 0 ≤ x ∧ x ≤ 3) (hy : 0 ≤ y ∧ y ≤ 3) : (joinL x y).2 = true → belowL x (joinL x y).1 = true ∧ belowL y (joinL x y).1 = true := by
  rcases cases4 hx with rfl | rfl | rfl | rfl <;> rcases cases4 hy with rfl | rfl | rfl | rfl <;> decide
theorem join_least (hx : 0 ≤ x ∧ x ≤ 3) (hy : 0 ≤ y ∧ y ≤ 3) (hz : 0 ≤ z ∧ z ≤ 3) : belowL x z = true → belowL y z = true → (joinL x y).2 = true ∧ belowL (joinL x y).1 z = true := by
  rcases cases4 hx with rfl | rfl | rfl | rfl <;> rcases cases4 hy with rfl | rfl | rfl | rfl <;> rcases cases4 hz with rfl | rfl | rfl | rfl <;> decide
theorem join_same (hx : 0 ≤ x ∧ x ≤ 3) (hy : 0 ≤ y ∧ y ≤ 3) : (joinL x y).2 = (x == y || (x == 2 || y == 2)) := by
  rcases cases4 hx with rfl | rfl | rfl | rfl <;> rcases cases4 hy with rfl | rfl | rfl | rfl <;> rfl
theorem join_self (hx : 0 ≤ x ∧ x ≤ 3) : joinL x x = (x, true) := by
  rcases cases4 hx with rfl | rfl | rfl | rfl <;> rfl
theorem join_range (hx : 0 ≤ x ∧ x ≤ 3) (hy : 0 ≤ y ∧ y ≤ 3) : 0 ≤ (joinL x y).1 := by
  rcases cases4 hx with rfl | rfl | rfl | rfl <;> rcases cases4 hy with rfl | rfl | rfl | rfl <;> decide
end

def sameL (x y x' y' : Int) : Bool := (x == x' || (x == 2 || x' == 2)) && (y == y' || (y == 2 || y' == 2))

section
variable {a b a' b' c d : Int}
theorem pjoin_comm (ha : 0 ≤ a) (hb : 0 ≤ b) (ha' : 0 ≤ a') (hb' : 0 ≤ b') : pjoinL a b a' b' = pjoinL a' b' a b := by
  unfold pjoinL
  rw [join_comm (clean_range ha) (clean_range ha'), join_comm (clean_range hb) (clean_range hb')]
theorem pjoin_false (h : (pjoinL a b a' b').2 = false) : (pjoinL a b a' b').1 = (0, 0) := by
  unfold pjoinL at h ⊢
  simp only at h ⊢
  split at h
  · split at h
    · cases h
    · rw [if_pos ‹_›, if_neg ‹_›]
  · rw [if_neg ‹_›]
theorem pjoin_true (h : (pjoinL a b a' b').2 = true) : (joinL (cleanL a) (cleanL a')).2 = true ∧ (joinL (cleanL b) (cleanL b')).2 = true ∧ (pjoinL a b a' b').1 = ((joinL (cleanL a) (cleanL a')).1, (joinL (cleanL b) (cleanL b')).1) := by
  unfold pjoinL at h ⊢
  simp only at h ⊢
  split at h
  · split at h
    · refine ⟨‹_›, ‹_›, ?_⟩
      rw [if_pos ‹_›, if_pos ‹_›]
    · cases h
  · cases h
theorem pjoin_is (h1 : (joinL (cleanL a) (cleanL a')).2 = true) (h2 : (joinL (cleanL b) (cleanL b')).2 = true) : (pjoinL a b a' b').2 = true := by
  unfold pjoinL
  simp only [h1, h2, if_true]
theorem pjoin_above (ha : 0 ≤ a) (hb : 0 ≤ b) (ha' : 0 ≤ a') (hb' : 0 ≤ b') (h : (pjoinL a b a' b').2 = true) :
    pbelowL (cleanL a) (cleanL b) (pjoinL a b a' b').1.1 (pjoinL a b a' b').1.2 = true ∧ pbelowL (cleanL a') (cleanL b') (pjoinL a b a' b').1.1 (pjoinL a b a' b').1.2 = true := by
  obtain ⟨h1, h2, h3⟩ := pjoin_true h
  have x := join_above (clean_range ha) (clean_range ha') h1
  have y := join_above (clean_range hb) (clean_range hb') h2
  rw [h3]
  exact ⟨by simp [pbelowL, x.1, y.1], by simp [pbelowL, x.2, y.2]⟩
theorem pjoin_least (ha : 0 ≤ a) (hb : 0 ≤ b) (ha' : 0 ≤ a') (hb' : 0 ≤ b') (hc : 0 ≤ c) (hd : 0 ≤ d) (h : pbelowL (cleanL a) (cleanL b) (cleanL c) (cleanL d) = true) (g : pbelowL (cleanL a') (cleanL b') (cleanL c) (cleanL d) = true) :
    (pjoinL a b a' b').2 = true ∧ pbelowL (pjoinL a b a' b').1.1 (pjoinL a b a' b').1.2 (cleanL c) (cleanL d) = true := by
  simp only [pbelowL, Bool.and_eq_true] at h g
  have x := join_least (clean_range ha) (clean_range ha') (clean_range hc) h.1 g.1
  have y := join_least (clean_range hb) (clean_range hb') (clean_range hd) h.2 g.2
  have is := pjoin_is x.1 y.1
  refine ⟨is, ?_⟩
  rw [(pjoin_true is).2.2]
  simp [pbelowL, x.2, y.2]
theorem pjoin_same (ha : 0 ≤ a) (hb : 0 ≤ b) (ha' : 0 ≤ a') (hb' : 0 ≤ b') : (pjoinL a b a' b').2 = sameL (cleanL a) (cleanL b) (cleanL a') (cleanL b') := by
  unfold sameL
  rw [← join_same (clean_range ha) (clean_range ha'), ← join_same (clean_range hb) (clean_range hb')]
  unfold pjoinL
  generalize joinL (cleanL a) (cleanL a') = p
  generalize joinL (cleanL b) (cleanL b') = q
  obtain ⟨p1, p2⟩ := p
  obtain ⟨q1, q2⟩ := q
  cases p2 <;> cases q2 <;> rfl
theorem pjoin_self (ha : 0 ≤ a) (hb : 0 ≤ b) : pjoinL (cleanL a) (cleanL b) (cleanL a) (cleanL b) = ((cleanL a, cleanL b), true) := by
  unfold pjoinL
  rw [clean_idem, clean_idem, join_self (clean_range ha), join_self (clean_range hb)]
  rfl
theorem pjoin_nonneg (ha : 0 ≤ a) (hb : 0 ≤ b) (ha' : 0 ≤ a') (hb' : 0 ≤ b') : 0 ≤ (pjoinL a b a' b').1.1 ∧ 0 ≤ (pjoinL a b a' b').1.2 := by
  cases h : (pjoinL a b a' b').2 with
  | false => rw [pjoin_false h]; exact ⟨by decide, by decide⟩
  | true =>
    rw [(pjoin_true h).2.2]
    exact ⟨join_range (clean_range ha) (clean_range ha'), join_range (clean_range hb) (clean_range hb')⟩
end

def arr3 (a b a' b' c d : Int) : Value := .agg #[.int .u8 a, .int .u8 b, .int .u8 a', .int .u8 b', .int .u8 c, .int .u8 d]

theorem pairsJoin_run {h : Heap} (hv : Vars h) {a b a' b' c d : Int} (ha : 0 ≤ a) (hb : 0 ≤ b) (ha' : 0 ≤ a') (hb' : 0 ≤ b') (hc0 : 0 ≤ c) (hd : 0 ≤ d) :
    CallD Tryd.prog NG 8 #[arr3 a b a' b' c d] h (.bool true) h := by
  refine fnP hM Tryd.func8 rfl (hP _ _ rfl Tryd.func8) (Nat.le_of_ble_eq_true rfl) (by kernel_rfl) ?_; ((conv => whnf); repeat ((first | refine CodeS.step ?_ | refine RegS.step ?_ | refine RegXS.step ?_); (conv => whnf)))
  refine ⟨_, _, boxK rfl, fun h1 n1 => ?_⟩; ((conv => whnf); repeat ((first | refine CodeS.step ?_ | refine RegS.step ?_ | refine RegXS.step ?_); (conv => whnf)))
  have e1 : h1.get h.size = some (.cells [.int .u8 a, .int .u8 b, .int .u8 a', .int .u8 b', .int .u8 c, .int .u8 d] false) := n1.get
  refine indexArrK (s := 2) rfl rfl rfl rfl (j := 0) (Nat.le_of_ble_eq_true rfl) ?_; ((conv => whnf); repeat ((first | refine CodeS.step ?_ | refine RegS.step ?_ | refine RegXS.step ?_); (conv => whnf)))
  refine ⟨_, loadAggK rfl e1 rfl rfl (Nat.le_of_ble_eq_true rfl) rfl, ?_⟩; ((conv => whnf); repeat ((first | refine CodeS.step ?_ | refine RegS.step ?_ | refine RegXS.step ?_); (conv => whnf)))
  refine ⟨.inl (by kernel_rfl), ?_⟩; ((conv => whnf); repeat ((first | refine CodeS.step ?_ | refine RegS.step ?_ | refine RegXS.step ?_); (conv => whnf)))
  refine ⟨_, _, lclean_ok ha hb, ?_⟩; ((conv => whnf); repeat ((first | refine CodeS.step ?_ | refine RegS.step ?_ | refine RegXS.step ?_); (conv => whnf)))
  refine ⟨.inl (Ext.refl _), ?_⟩; ((conv => whnf); repeat ((first | refine CodeS.step ?_ | refine RegS.step ?_ | refine RegXS.step ?_); (conv => whnf)))
  refine indexArrK (s := 2) rfl rfl rfl rfl (j := 1) (Nat.le_of_ble_eq_true rfl) ?_; ((conv => whnf); repeat ((first | refine CodeS.step ?_ | refine RegS.step ?_ | refine RegXS.step ?_); (conv => whnf)))
  refine ⟨_, loadAggK rfl e1 rfl rfl (Nat.le_of_ble_eq_true rfl) rfl, ?_⟩; ((conv => whnf); repeat ((first | refine CodeS.step ?_ | refine RegS.step ?_ | refine RegXS.step ?_); (conv => whnf)))
  refine ⟨.inl (by kernel_rfl), ?_⟩; ((conv => whnf); repeat ((first | refine CodeS.step ?_ | refine RegS.step ?_ | refine RegXS.step ?_); (conv => whnf)))
  refine ⟨_, _, lclean_ok ha' hb', ?_⟩; ((conv => whnf); repeat ((first | refine CodeS.step ?_ | refine RegS.step ?_ | refine RegXS.step ?_); (conv => whnf)))
  refine ⟨.inl (Ext.refl _), ?_⟩; ((conv => whnf); repeat ((first | refine CodeS.step ?_ | refine RegS.step ?_ | refine RegXS.step ?_); (conv => whnf)))
  refine indexArrK (s := 2) rfl rfl rfl rfl (j := 2) (Nat.le_of_ble_eq_true rfl) ?_; ((conv => whnf); repeat ((first | refine CodeS.step ?_ | refine RegS.step ?_ | refine RegXS.step ?_); (conv => whnf)))
  refine ⟨_, loadAggK rfl e1 rfl rfl (Nat.le_of_ble_eq_true rfl) rfl, ?_⟩; ((conv => whnf); repeat ((first | refine CodeS.step ?_ | refine RegS.step ?_ | refine RegXS.step ?_); (conv => whnf)))
  refine ⟨.inl (by kernel_rfl), ?_⟩; ((conv => whnf); repeat ((first | refine CodeS.step ?_ | refine RegS.step ?_ | refine RegXS.step ?_); (conv => whnf)))
  refine ⟨_, _, lclean_ok hc0 hd, ?_⟩; ((conv => whnf); repeat ((first | refine CodeS.step ?_ | refine RegS.step ?_ | refine RegXS.step ?_); (conv => whnf)))
  refine ⟨.inl (Ext.refl _), ?_⟩; ((conv => whnf); repeat ((first | refine CodeS.step ?_ | refine RegS.step ?_ | refine RegXS.step ?_); (conv => whnf)))
  refine ⟨_, _, allocPair, fun h2 n2 => ?_⟩; ((conv => whnf); repeat ((first | refine CodeS.step ?_ | refine RegS.step ?_ | refine RegXS.step ?_); (conv => whnf)))
  refine ⟨_, _, allocPair, fun h3 n3 => ?_⟩; ((conv => whnf); repeat ((first | refine CodeS.step ?_ | refine RegS.step ?_ | refine RegXS.step ?_); (conv => whnf)))
  refine ⟨_, _, allocPair, fun h4 n4 => ?_⟩; ((conv => whnf); repeat ((first | refine CodeS.step ?_ | refine RegS.step ?_ | refine RegXS.step ?_); (conv => whnf)))
  have e2 := n4.keep (n3.keep n2.get)
  have e3 := n4.keep n3.get
  have e4 := n4.get
  have e1 := n4.keep (n3.keep (n2.keep e1))
  have s1 := n1.size
  have s2 := n2.size
  have s3 := n3.size
  have s4 := n4.size
  have E : Ext h h4 := n4.exts (n3.exts (n2.exts n1.ext))
  refine storeK rfl e2 rfl rfl rfl (Nat.le_of_ble_eq_true rfl) rfl fun h5 u5 => ?_; ((conv => whnf); repeat ((first | refine CodeS.step ?_ | refine RegS.step ?_ | refine RegXS.step ?_); (conv => whnf)))
  refine ⟨.inl (by kernel_rfl), ?_⟩; ((conv => whnf); repeat ((first | refine CodeS.step ?_ | refine RegS.step ?_ | refine RegXS.step ?_); (conv => whnf)))
  replace e3 := u5.keep (k := h2.size) (by omega) e3
  replace e4 := u5.keep (k := h3.size) (by omega) e4
  replace e1 := u5.keep (k := h.size) (by omega) e1
  have e2 : h5.get h1.size = some (.cells [.int .u8 (cleanL a), .int .u8 (cleanL b)] false) := u5.get
  replace E := u5.ext E (by omega)
  refine storeK rfl e3 rfl rfl rfl (Nat.le_of_ble_eq_true rfl) rfl fun h6 u6 => ?_; ((conv => whnf); repeat ((first | refine CodeS.step ?_ | refine RegS.step ?_ | refine RegXS.step ?_); (conv => whnf)))
  refine ⟨.inl (by kernel_rfl), ?_⟩; ((conv => whnf); repeat ((first | refine CodeS.step ?_ | refine RegS.step ?_ | refine RegXS.step ?_); (conv => whnf)))
  replace e2 := u6.keep (k := h1.size) (by omega) e2
  replace e4 := u6.keep (k := h3.size) (by omega) e4
  replace e1 := u6.keep (k := h.size) (by omega) e1
  have e3 : h6.get h2.size = some (.cells [.int .u8 (cleanL a'), .int .u8 (cleanL b')] false) := u6.get
  replace E := u6.ext E (by omega)
  refine storeK rfl e4 rfl rfl rfl (Nat.le_of_ble_eq_true rfl) rfl fun h7 u7 => ?_; ((conv => whnf); repeat ((first | refine CodeS.step ?_ | refine RegS.step ?_ | refine RegXS.step ?_); (conv => whnf)))
  refine ⟨.inl (by kernel_rfl), ?_⟩; ((conv => whnf); repeat ((first | refine CodeS.step ?_ | refine RegS.step ?_ | refine RegXS.step ?_); (conv => whnf)))
  replace e2 := u7.keep (k := h1.size) (by omega) e2
  replace e3 := u7.keep (k := h2.size) (by omega) e3
  replace e1 := u7.keep (k := h.size) (by omega) e1
  have e4 : h7.get h3.size = some (.cells [.int .u8 (cleanL c), .int .u8 (cleanL d)] false) := u7.get
  replace E := u7.ext E (by omega)
  have z7 : h7.size = h4.size := by rw [u7.size, u6.size, u5.size]
  refine indexArrK (s := 2) rfl rfl rfl rfl (j := 0) (Nat.le_of_ble_eq_true rfl) ?_; ((conv => whnf); repeat ((first | refine CodeS.step ?_ | refine RegS.step ?_ | refine RegXS.step ?_); (conv => whnf)))
  refine ⟨_, loadAggK rfl e1 rfl rfl (Nat.le_of_ble_eq_true rfl) rfl, ?_⟩; ((conv => whnf); repeat ((first | refine CodeS.step ?_ | refine RegS.step ?_ | refine RegXS.step ?_); (conv => whnf)))
  refine indexArrK (s := 2) rfl rfl rfl rfl (j := 1) (Nat.le_of_ble_eq_true rfl) ?_; ((conv => whnf); repeat ((first | refine CodeS.step ?_ | refine RegS.step ?_ | refine RegXS.step ?_); (conv => whnf)))
  refine ⟨_, loadAggK rfl e1 rfl rfl (Nat.le_of_ble_eq_true rfl) rfl, ?_⟩; ((conv => whnf); repeat ((first | refine CodeS.step ?_ | refine RegS.step ?_ | refine RegXS.step ?_); (conv => whnf)))
  refine ⟨_, _, pjoin_ok ha hb ha' hb', ?_⟩; ((conv => whnf); repeat ((first | refine CodeS.step ?_ | refine RegS.step ?_ | refine RegXS.step ?_); (conv => whnf)))
  refine ⟨_, _, allocPair, fun h8 n8 => ?_⟩; ((conv => whnf); repeat ((first | refine CodeS.step ?_ | refine RegS.step ?_ | refine RegXS.step ?_); (conv => whnf)))
  refine storeK rfl n8.get rfl rfl rfl (Nat.le_of_ble_eq_true rfl) rfl fun h9 u9 => ?_; ((conv => whnf); repeat ((first | refine CodeS.step ?_ | refine RegS.step ?_ | refine RegXS.step ?_); (conv => whnf)))
  replace e1 := u9.keep (k := h.size) (by omega) (n8.keep e1)
  replace e2 := u9.keep (k := h1.size) (by omega) (n8.keep e2)
  replace e3 := u9.keep (k := h2.size) (by omega) (n8.keep e3)
  replace e4 := u9.keep (k := h3.size) (by omega) (n8.keep e4)
  have e6 : h9.get h7.size = some (.cells [.int .u8 (pjoinL a b a' b').1.1, .int .u8 (pjoinL a b a' b').1.2] false) := u9.get
  replace E := u9.ext (n8.exts E) (by omega)
  have s8 := n8.size
  have s9 := u9.size
  refine indexArrK (s := 2) rfl rfl rfl rfl (j := 1) (Nat.le_of_ble_eq_true rfl) ?_; ((conv => whnf); repeat ((first | refine CodeS.step ?_ | refine RegS.step ?_ | refine RegXS.step ?_); (conv => whnf)))
  refine ⟨_, loadAggK rfl e1 rfl rfl (Nat.le_of_ble_eq_true rfl) rfl, ?_⟩; ((conv => whnf); repeat ((first | refine CodeS.step ?_ | refine RegS.step ?_ | refine RegXS.step ?_); (conv => whnf)))
  refine indexArrK (s := 2) rfl rfl rfl rfl (j := 0) (Nat.le_of_ble_eq_true rfl) ?_; ((conv => whnf); repeat ((first | refine CodeS.step ?_ | refine RegS.step ?_ | refine RegXS.step ?_); (conv => whnf)))
  refine ⟨_, loadAggK rfl e1 rfl rfl (Nat.le_of_ble_eq_true rfl) rfl, ?_⟩; ((conv => whnf); repeat ((first | refine CodeS.step ?_ | refine RegS.step ?_ | refine RegXS.step ?_); (conv => whnf)))
  refine ⟨_, _, pjoin_ok ha' hb' ha hb, ?_⟩; ((conv => whnf); repeat ((first | refine CodeS.step ?_ | refine RegS.step ?_ | refine RegXS.step ?_); (conv => whnf)))
  refine ⟨_, _, allocPair, fun h10 n10 => ?_⟩; ((conv => whnf); repeat ((first | refine CodeS.step ?_ | refine RegS.step ?_ | refine RegXS.step ?_); (conv => whnf)))
  refine storeK rfl n10.get rfl rfl rfl (Nat.le_of_ble_eq_true rfl) rfl fun h11 u11 => ?_; ((conv => whnf); repeat ((first | refine RegS.step ?_ | refine RegXS.step ?_); (conv => whnf)))
  replace e2 := u11.keep (k := h1.size) (by omega) (n10.keep e2)
  replace e3 := u11.keep (k := h2.size) (by omega) (n10.keep e3)
  replace e4 := u11.keep (k := h3.size) (by omega) (n10.keep e4)
  replace e6 := u11.keep (k := h7.size) (by omega) (n10.keep e6)
  have e8 : h11.get h9.size = some (.cells [.int .u8 (pjoinL a' b' a b).1.1, .int .u8 (pjoinL a' b' a b).1.2] false) := u11.get
  replace E := u11.ext (n10.exts E) (by omega)
  have jn := pjoin_nonneg ha hb ha' hb'
  have cm := pjoin_comm ha hb ha' hb'
  refine CodeS.join (nn := 140) (fun h' => h' = h11)
    [(3, .pointer (some ⟨h1.size, 0, none⟩)), (4, .pointer (some ⟨h2.size, 0, none⟩)), (5, .pointer (some ⟨h3.size, 0, none⟩)), (6, .pointer (some ⟨h7.size, 0, none⟩)), (7, .bool (pjoinL a b a' b').2)] rfl ?_ ?_
  · have z1 : (!((pjoinL a b a' b').1.1 == (pjoinL a' b' a b).1.1 && (pjoinL a b a' b').1.2 == (pjoinL a' b' a b).1.2)) = false := by rw [cm]; simp
    have z2 : (!((pjoinL a b a' b').2 == (pjoinL a' b' a b).2)) = false := by rw [cm]; simp
    ((conv => whnf); repeat ((first | refine CodeS.step ?_ | refine RegS.step ?_ | refine RegXS.step ?_); (conv => whnf)))
    refine ⟨_, loadAggK rfl e6 rfl rfl (Nat.le_of_ble_eq_true rfl) rfl, ?_⟩; ((conv => whnf); repeat ((first | refine CodeS.step ?_ | refine RegS.step ?_ | refine RegXS.step ?_); (conv => whnf)))
    refine ⟨_, loadAggK rfl e8 rfl rfl (Nat.le_of_ble_eq_true rfl) rfl, ?_⟩; ((conv => whnf); repeat ((first | refine CodeS.step ?_ | refine RegS.step ?_ | refine RegXS.step ?_); (conv => whnf)))
    refine ⟨_, nePair rfl rfl, ?_⟩; ((conv => whnf); repeat ((first | refine CodeS.step ?_ | refine RegS.step ?_ | refine RegXS.step ?_); (conv => whnf)))
    refine ⟨_, rfl, (fun hx => nomatch (hx.symm.trans z1)), fun _ => ?_⟩; ((conv => whnf); repeat ((first | refine CodeS.step ?_ | refine RegS.step ?_ | refine RegXS.step ?_); (conv => whnf)))
    refine ⟨_, rfl, (fun hx => nomatch (hx.symm.trans z2)), fun _ => ?_⟩; ((conv => whnf); repeat ((first | refine CodeS.step ?_ | refine RegS.step ?_ | refine RegXS.step ?_); (conv => whnf)))
    cases hJ : (pjoinL a b a' b').2 with
    | false =>
      have z3 : (!((pjoinL a b a' b').1.1 == 0 && (pjoinL a b a' b').1.2 == 0)) = false := by rw [pjoin_false hJ]; rfl
      refine ⟨true, rfl, fun _ => ?_, (fun hc => nomatch hc)⟩; ((conv => whnf); repeat ((first | refine CodeS.step ?_ | refine RegS.step ?_ | refine RegXS.step ?_); (conv => whnf)))
      refine ⟨_, loadAggK rfl e6 rfl rfl (Nat.le_of_ble_eq_true rfl) rfl, ?_⟩; ((conv => whnf); repeat ((first | refine CodeS.step ?_ | refine RegS.step ?_ | refine RegXS.step ?_); (conv => whnf)))
      refine ⟨_, apure_build zeroPair plainsPair builtNone rfl, ?_⟩; ((conv => whnf); repeat ((first | refine CodeS.step ?_ | refine RegS.step ?_ | refine RegXS.step ?_); (conv => whnf)))
      refine ⟨_, nePair rfl rfl, ?_⟩; ((conv => whnf); repeat ((first | refine CodeS.step ?_ | refine RegS.step ?_ | refine RegXS.step ?_); (conv => whnf)))
      refine ⟨_, rfl, (fun hx => nomatch (hx.symm.trans z3)), fun _ => ?_⟩; ((conv => whnf); repeat ((first | refine CodeS.step ?_ | refine RegS.step ?_ | refine RegXS.step ?_); (conv => whnf)))
      refine ⟨false, rfl, (fun hc => nomatch hc), fun _ => ?_⟩; ((conv => whnf); repeat ((first | refine CodeS.step ?_ | refine RegS.step ?_ | refine RegXS.step ?_); (conv => whnf)))
      refine ⟨false, rfl, (fun hc => nomatch hc), fun _ => ?_⟩; ((conv => whnf); repeat ((first | refine CodeS.step ?_ | refine RegS.step ?_ | refine RegXS.step ?_); (conv => whnf)))
      exact ⟨rfl, rfl, rfl, rfl, rfl, rfl, trivial⟩
    | true =>
      have ab := pjoin_above ha hb ha' hb' hJ
      have z3 : (!pbelowL (cleanL a) (cleanL b) (pjoinL a b a' b').1.1 (pjoinL a b a' b').1.2) = false := by rw [ab.1]; rfl
      have z4 : (!pbelowL (cleanL a') (cleanL b') (pjoinL a b a' b').1.1 (pjoinL a b a' b').1.2) = false := by rw [ab.2]; rfl
      refine ⟨false, rfl, (fun hc => nomatch hc), fun _ => ?_⟩; ((conv => whnf); repeat ((first | refine CodeS.step ?_ | refine RegS.step ?_ | refine RegXS.step ?_); (conv => whnf)))
      refine ⟨false, rfl, (fun hc => nomatch hc), fun _ => ?_⟩; ((conv => whnf); repeat ((first | refine CodeS.step ?_ | refine RegS.step ?_ | refine RegXS.step ?_); (conv => whnf)))
      refine ⟨true, rfl, fun _ => ?_, (fun hc => nomatch hc)⟩; ((conv => whnf); repeat ((first | refine CodeS.step ?_ | refine RegS.step ?_ | refine RegXS.step ?_); (conv => whnf)))
      refine ⟨_, loadAggK rfl e2 rfl rfl (Nat.le_of_ble_eq_true rfl) rfl, ?_⟩; ((conv => whnf); repeat ((first | refine CodeS.step ?_ | refine RegS.step ?_ | refine RegXS.step ?_); (conv => whnf)))
      refine ⟨_, loadAggK rfl e6 rfl rfl (Nat.le_of_ble_eq_true rfl) rfl, ?_⟩; ((conv => whnf); repeat ((first | refine CodeS.step ?_ | refine RegS.step ?_ | refine RegXS.step ?_); (conv => whnf)))
      refine ⟨_, _, pbelow_ok (cleanL_nonneg ha) (cleanL_nonneg hb) jn.1 jn.2, ?_⟩; ((conv => whnf); repeat ((first | refine CodeS.step ?_ | refine RegS.step ?_ | refine RegXS.step ?_); (conv => whnf)))
      refine ⟨_, rfl, (fun hx => nomatch (hx.symm.trans z3)), fun _ => ?_⟩; ((conv => whnf); repeat ((first | refine CodeS.step ?_ | refine RegS.step ?_ | refine RegXS.step ?_); (conv => whnf)))
      refine ⟨_, loadAggK rfl e3 rfl rfl (Nat.le_of_ble_eq_true rfl) rfl, ?_⟩; ((conv => whnf); repeat ((first | refine CodeS.step ?_ | refine RegS.step ?_ | refine RegXS.step ?_); (conv => whnf)))
      refine ⟨_, loadAggK rfl e6 rfl rfl (Nat.le_of_ble_eq_true rfl) rfl, ?_⟩; ((conv => whnf); repeat ((first | refine CodeS.step ?_ | refine RegS.step ?_ | refine RegXS.step ?_); (conv => whnf)))
      refine ⟨_, _, pbelow_ok (cleanL_nonneg ha') (cleanL_nonneg hb') jn.1 jn.2, ?_⟩; ((conv => whnf); repeat ((first | refine CodeS.step ?_ | refine RegS.step ?_ | refine RegXS.step ?_); (conv => whnf)))
      refine ⟨_, rfl, (fun hx => nomatch (hx.symm.trans z4)), fun _ => ?_⟩; ((conv => whnf); repeat ((first | refine CodeS.step ?_ | refine RegS.step ?_ | refine RegXS.step ?_); (conv => whnf)))
      exact ⟨rfl, rfl, rfl, rfl, rfl, rfl, trivial⟩
  rintro base h12 rfl
  (conv => whnf)
  refine CodeS.join (nn := 140) (fun h' => h' = h12)
    [(3, .pointer (some ⟨h1.size, 0, none⟩)), (4, .pointer (some ⟨h2.size, 0, none⟩)), (6, .pointer (some ⟨h7.size, 0, none⟩)), (7, .bool (pjoinL a b a' b').2)] rfl ?_ ?_
  · ((conv => whnf); repeat ((first | refine CodeS.step ?_ | refine RegS.step ?_ | refine RegXS.step ?_); (conv => whnf)))
    refine ⟨_, loadAggK rfl e2 rfl rfl (Nat.le_of_ble_eq_true rfl) rfl, ?_⟩; ((conv => whnf); repeat ((first | refine CodeS.step ?_ | refine RegS.step ?_ | refine RegXS.step ?_); (conv => whnf)))
    refine ⟨_, loadAggK rfl e4 rfl rfl (Nat.le_of_ble_eq_true rfl) rfl, ?_⟩; ((conv => whnf); repeat ((first | refine CodeS.step ?_ | refine RegS.step ?_ | refine RegXS.step ?_); (conv => whnf)))
    refine ⟨_, _, pbelow_ok (cleanL_nonneg ha) (cleanL_nonneg hb) (cleanL_nonneg hc0) (cleanL_nonneg hd), ?_⟩; ((conv => whnf); repeat ((first | refine CodeS.step ?_ | refine RegS.step ?_ | refine RegXS.step ?_); (conv => whnf)))
    refine ⟨_, rfl, fun hc => ?_, fun hc => ?_⟩
    · ((conv => whnf); repeat ((first | refine CodeS.step ?_ | refine RegS.step ?_ | refine RegXS.step ?_); (conv => whnf)))
      have p1 := hc
      refine ⟨_, loadAggK rfl e3 rfl rfl (Nat.le_of_ble_eq_true rfl) rfl, ?_⟩; ((conv => whnf); repeat ((first | refine CodeS.step ?_ | refine RegS.step ?_ | refine RegXS.step ?_); (conv => whnf)))
      refine ⟨_, loadAggK rfl e4 rfl rfl (Nat.le_of_ble_eq_true rfl) rfl, ?_⟩; ((conv => whnf); repeat ((first | refine CodeS.step ?_ | refine RegS.step ?_ | refine RegXS.step ?_); (conv => whnf)))
      refine ⟨_, _, pbelow_ok (cleanL_nonneg ha') (cleanL_nonneg hb') (cleanL_nonneg hc0) (cleanL_nonneg hd), ?_⟩; ((conv => whnf); repeat ((first | refine CodeS.step ?_ | refine RegS.step ?_ | refine RegXS.step ?_); (conv => whnf)))
      refine ⟨_, rfl, fun hc => ?_, fun hc => ?_⟩
      · have le := pjoin_least ha hb ha' hb' hc0 hd p1 hc
        have z5 : (!(pjoinL a b a' b').2) = false := by rw [le.1]; rfl
        have z6 : (!pbelowL (pjoinL a b a' b').1.1 (pjoinL a b a' b').1.2 (cleanL c) (cleanL d)) = false := by rw [le.2]; rfl
        ((conv => whnf); repeat ((first | refine CodeS.step ?_ | refine RegS.step ?_ | refine RegXS.step ?_); (conv => whnf)))
        refine ⟨_, rfl, (fun hx => nomatch (hx.symm.trans z5)), fun _ => ?_⟩; ((conv => whnf); repeat ((first | refine CodeS.step ?_ | refine RegS.step ?_ | refine RegXS.step ?_); (conv => whnf)))
        refine ⟨_, loadAggK rfl e6 rfl rfl (Nat.le_of_ble_eq_true rfl) rfl, ?_⟩; ((conv => whnf); repeat ((first | refine CodeS.step ?_ | refine RegS.step ?_ | refine RegXS.step ?_); (conv => whnf)))
        refine ⟨_, loadAggK rfl e4 rfl rfl (Nat.le_of_ble_eq_true rfl) rfl, ?_⟩; ((conv => whnf); repeat ((first | refine CodeS.step ?_ | refine RegS.step ?_ | refine RegXS.step ?_); (conv => whnf)))
        refine ⟨_, _, pbelow_ok jn.1 jn.2 (cleanL_nonneg hc0) (cleanL_nonneg hd), ?_⟩; ((conv => whnf); repeat ((first | refine CodeS.step ?_ | refine RegS.step ?_ | refine RegXS.step ?_); (conv => whnf)))
        refine ⟨_, rfl, (fun hx => nomatch (hx.symm.trans z6)), fun _ => ?_⟩; ((conv => whnf); repeat ((first | refine CodeS.step ?_ | refine RegS.step ?_ | refine RegXS.step ?_); (conv => whnf)))
        exact ⟨rfl, rfl, rfl, rfl, rfl, trivial⟩
      · ((conv => whnf); repeat ((first | refine CodeS.step ?_ | refine RegS.step ?_ | refine RegXS.step ?_); (conv => whnf)))
        refine ⟨false, rfl, (fun hc => nomatch hc), fun _ => ?_⟩; ((conv => whnf); repeat ((first | refine CodeS.step ?_ | refine RegS.step ?_ | refine RegXS.step ?_); (conv => whnf)))
        exact ⟨rfl, rfl, rfl, rfl, rfl, trivial⟩
    · ((conv => whnf); repeat ((first | refine CodeS.step ?_ | refine RegS.step ?_ | refine RegXS.step ?_); (conv => whnf)))
      refine ⟨false, rfl, (fun hc => nomatch hc), fun _ => ?_⟩; ((conv => whnf); repeat ((first | refine CodeS.step ?_ | refine RegS.step ?_ | refine RegXS.step ?_); (conv => whnf)))
      refine ⟨false, rfl, (fun hc => nomatch hc), fun _ => ?_⟩; ((conv => whnf); repeat ((first | refine CodeS.step ?_ | refine RegS.step ?_ | refine RegXS.step ?_); (conv => whnf)))
      exact ⟨rfl, rfl, rfl, rfl, rfl, trivial⟩
  rintro base h13 rfl
  (conv => whnf)
  have rest : ∀ base : Nat → Value, True := fun _ => trivial
  clear rest
  have e3' := e3
  have e2' := e2
  replace e4 := e3
  replace e3 := e2
  refine CodeS.join (nn := 140) (fun h' => h' = h13)
    [(3, .pointer (some ⟨h1.size, 0, none⟩)), (4, .pointer (some ⟨h2.size, 0, none⟩)), (6, .pointer (some ⟨h7.size, 0, none⟩)), (7, .bool (pjoinL a b a' b').2), (10, .bool (sameL (cleanL a) (cleanL b) (cleanL a') (cleanL b')))] rfl ?_ ?_
  · ((conv => whnf); repeat ((first | refine CodeS.step ?_ | refine RegS.step ?_ | refine RegXS.step ?_); (conv => whnf)))
    refine ⟨_, loadK rfl e3 rfl rfl, ?_⟩; ((conv => whnf); repeat ((first | refine CodeS.step ?_ | refine RegS.step ?_ | refine RegXS.step ?_); (conv => whnf)))
    refine ⟨_, loadK rfl e4 rfl rfl, ?_⟩; ((conv => whnf); repeat ((first | refine CodeS.step ?_ | refine RegS.step ?_ | refine RegXS.step ?_); (conv => whnf)))
    refine ⟨_, rfl, fun hc => ?_, fun hc => ?_⟩
    · ((conv => whnf); repeat ((first | refine CodeS.step ?_ | refine RegS.step ?_ | refine RegXS.step ?_); (conv => whnf)))
      have hx := hc
      refine ⟨true, rfl, fun _ => ?_, (fun hc => nomatch hc)⟩; ((conv => whnf); repeat ((first | refine CodeS.step ?_ | refine RegS.step ?_ | refine RegXS.step ?_); (conv => whnf)))
      refine ⟨true, rfl, fun _ => ?_, (fun hc => nomatch hc)⟩; ((conv => whnf); repeat ((first | refine CodeS.step ?_ | refine RegS.step ?_ | refine RegXS.step ?_); (conv => whnf)))
      refine ⟨_, loadK rfl e3 rfl rfl, ?_⟩; ((conv => whnf); repeat ((first | refine CodeS.step ?_ | refine RegS.step ?_ | refine RegXS.step ?_); (conv => whnf)))
      refine ⟨_, loadK rfl e4 rfl rfl, ?_⟩; ((conv => whnf); repeat ((first | refine CodeS.step ?_ | refine RegS.step ?_ | refine RegXS.step ?_); (conv => whnf)))
      refine ⟨_, rfl, fun hc => ?_, fun hc => ?_⟩
      · ((conv => whnf); repeat ((first | refine CodeS.step ?_ | refine RegS.step ?_ | refine RegXS.step ?_); (conv => whnf)))
        have hy := hc
        refine ⟨true, rfl, fun _ => ?_, (fun hc => nomatch hc)⟩; ((conv => whnf); repeat ((first | refine CodeS.step ?_ | refine RegS.step ?_ | refine RegXS.step ?_); (conv => whnf)))
        exact ⟨rfl, rfl, rfl, rfl, rfl, congrArg Value.bool (by unfold sameL; simp [hx, hy]), trivial⟩
      · ((conv => whnf); repeat ((first | refine CodeS.step ?_ | refine RegS.step ?_ | refine RegXS.step ?_); (conv => whnf)))
        have hy := hc
        refine ⟨_, loadK rfl e3 rfl rfl, ?_⟩; ((conv => whnf); repeat ((first | refine CodeS.step ?_ | refine RegS.step ?_ | refine RegXS.step ?_); (conv => whnf)))
        refine ⟨_, rfl, fun hc => ?_, fun hc => ?_⟩
        · ((conv => whnf); repeat ((first | refine CodeS.step ?_ | refine RegS.step ?_ | refine RegXS.step ?_); (conv => whnf)))
          have hy1 := hc
          exact ⟨rfl, rfl, rfl, rfl, rfl, congrArg Value.bool (by unfold sameL; simp [hx, hy, hy1]), trivial⟩
        · ((conv => whnf); repeat ((first | refine CodeS.step ?_ | refine RegS.step ?_ | refine RegXS.step ?_); (conv => whnf)))
          have hy1 := hc
          refine ⟨_, loadK rfl e4 rfl rfl, ?_⟩; ((conv => whnf); repeat ((first | refine CodeS.step ?_ | refine RegS.step ?_ | refine RegXS.step ?_); (conv => whnf)))
          exact ⟨rfl, rfl, rfl, rfl, rfl, congrArg Value.bool (by unfold sameL; simp [hx, hy, hy1]), trivial⟩
    · ((conv => whnf); repeat ((first | refine CodeS.step ?_ | refine RegS.step ?_ | refine RegXS.step ?_); (conv => whnf)))
      have hx := hc
      refine ⟨_, loadK rfl e3 rfl rfl, ?_⟩; ((conv => whnf); repeat ((first | refine CodeS.step ?_ | refine RegS.step ?_ | refine RegXS.step ?_); (conv => whnf)))
      refine ⟨_, rfl, fun hc => ?_, fun hc => ?_⟩
      · ((conv => whnf); repeat ((first | refine CodeS.step ?_ | refine RegS.step ?_ | refine RegXS.step ?_); (conv => whnf)))
        have hx1 := hc
        refine ⟨true, rfl, fun _ => ?_, (fun hc => nomatch hc)⟩; ((conv => whnf); repeat ((first | refine CodeS.step ?_ | refine RegS.step ?_ | refine RegXS.step ?_); (conv => whnf)))
        refine ⟨_, loadK rfl e3 rfl rfl, ?_⟩; ((conv => whnf); repeat ((first | refine CodeS.step ?_ | refine RegS.step ?_ | refine RegXS.step ?_); (conv => whnf)))
        refine ⟨_, loadK rfl e4 rfl rfl, ?_⟩; ((conv => whnf); repeat ((first | refine CodeS.step ?_ | refine RegS.step ?_ | refine RegXS.step ?_); (conv => whnf)))
        refine ⟨_, rfl, fun hc => ?_, fun hc => ?_⟩
        · ((conv => whnf); repeat ((first | refine CodeS.step ?_ | refine RegS.step ?_ | refine RegXS.step ?_); (conv => whnf)))
          have hy := hc
          refine ⟨true, rfl, fun _ => ?_, (fun hc => nomatch hc)⟩; ((conv => whnf); repeat ((first | refine CodeS.step ?_ | refine RegS.step ?_ | refine RegXS.step ?_); (conv => whnf)))
          exact ⟨rfl, rfl, rfl, rfl, rfl, congrArg Value.bool (by unfold sameL; simp [hx, hx1, hy]), trivial⟩
        · ((conv => whnf); repeat ((first | refine CodeS.step ?_ | refine RegS.step ?_ | refine RegXS.step ?_); (conv => whnf)))
          have hy := hc
          refine ⟨_, loadK rfl e3 rfl rfl, ?_⟩; ((conv => whnf); repeat ((first | refine CodeS.step ?_ | refine RegS.step ?_ | refine RegXS.step ?_); (conv => whnf)))
          refine ⟨_, rfl, fun hc => ?_, fun hc => ?_⟩
          · ((conv => whnf); repeat ((first | refine CodeS.step ?_ | refine RegS.step ?_ | refine RegXS.step ?_); (conv => whnf)))
            have hy1 := hc
            exact ⟨rfl, rfl, rfl, rfl, rfl, congrArg Value.bool (by unfold sameL; simp [hx, hx1, hy, hy1]), trivial⟩
          · ((conv => whnf); repeat ((first | refine CodeS.step ?_ | refine RegS.step ?_ | refine RegXS.step ?_); (conv => whnf)))
            have hy1 := hc
            refine ⟨_, loadK rfl e4 rfl rfl, ?_⟩; ((conv => whnf); repeat ((first | refine CodeS.step ?_ | refine RegS.step ?_ | refine RegXS.step ?_); (conv => whnf)))
            exact ⟨rfl, rfl, rfl, rfl, rfl, congrArg Value.bool (by unfold sameL; simp [hx, hx1, hy, hy1]), trivial⟩
      · ((conv => whnf); repeat ((first | refine CodeS.step ?_ | refine RegS.step ?_ | refine RegXS.step ?_); (conv => whnf)))
        have hx1 := hc
        refine ⟨_, loadK rfl e4 rfl rfl, ?_⟩; ((conv => whnf); repeat ((first | refine CodeS.step ?_ | refine RegS.step ?_ | refine RegXS.step ?_); (conv => whnf)))
        refine ⟨_, rfl, fun hc => ?_, fun hc => ?_⟩
        · ((conv => whnf); repeat ((first | refine CodeS.step ?_ | refine RegS.step ?_ | refine RegXS.step ?_); (conv => whnf)))
          have hx2 := hc
          refine ⟨_, loadK rfl e3 rfl rfl, ?_⟩; ((conv => whnf); repeat ((first | refine CodeS.step ?_ | refine RegS.step ?_ | refine RegXS.step ?_); (conv => whnf)))
          refine ⟨_, loadK rfl e4 rfl rfl, ?_⟩; ((conv => whnf); repeat ((first | refine CodeS.step ?_ | refine RegS.step ?_ | refine RegXS.step ?_); (conv => whnf)))
          refine ⟨_, rfl, fun hc => ?_, fun hc => ?_⟩
          · ((conv => whnf); repeat ((first | refine CodeS.step ?_ | refine RegS.step ?_ | refine RegXS.step ?_); (conv => whnf)))
            have hy := hc
            refine ⟨true, rfl, fun _ => ?_, (fun hc => nomatch hc)⟩; ((conv => whnf); repeat ((first | refine CodeS.step ?_ | refine RegS.step ?_ | refine RegXS.step ?_); (conv => whnf)))
            exact ⟨rfl, rfl, rfl, rfl, rfl, congrArg Value.bool (by unfold sameL; simp [hx, hx1, hx2, hy]), trivial⟩
          · ((conv => whnf); repeat ((first | refine CodeS.step ?_ | refine RegS.step ?_ | refine RegXS.step ?_); (conv => whnf)))
            have hy := hc
            refine ⟨_, loadK rfl e3 rfl rfl, ?_⟩; ((conv => whnf); repeat ((first | refine CodeS.step ?_ | refine RegS.step ?_ | refine RegXS.step ?_); (conv => whnf)))
            refine ⟨_, rfl, fun hc => ?_, fun hc => ?_⟩
            · ((conv => whnf); repeat ((first | refine CodeS.step ?_ | refine RegS.step ?_ | refine RegXS.step ?_); (conv => whnf)))
              have hy1 := hc
              exact ⟨rfl, rfl, rfl, rfl, rfl, congrArg Value.bool (by unfold sameL; simp [hx, hx1, hx2, hy, hy1]), trivial⟩
            · ((conv => whnf); repeat ((first | refine CodeS.step ?_ | refine RegS.step ?_ | refine RegXS.step ?_); (conv => whnf)))
              have hy1 := hc
              refine ⟨_, loadK rfl e4 rfl rfl, ?_⟩; ((conv => whnf); repeat ((first | refine CodeS.step ?_ | refine RegS.step ?_ | refine RegXS.step ?_); (conv => whnf)))
              exact ⟨rfl, rfl, rfl, rfl, rfl, congrArg Value.bool (by unfold sameL; simp [hx, hx1, hx2, hy, hy1]), trivial⟩
        · ((conv => whnf); repeat ((first | refine CodeS.step ?_ | refine RegS.step ?_ | refine RegXS.step ?_); (conv => whnf)))
          have hx2 := hc
          exact ⟨rfl, rfl, rfl, rfl, rfl, congrArg Value.bool (by unfold sameL; simp [hx, hx1, hx2]), trivial⟩
  rintro base h14 rfl
  have z7' : ((pjoinL a b a' b').2 == sameL (cleanL a) (cleanL b) (cleanL a') (cleanL b')) = true := by rw [pjoin_same ha hb ha' hb']; simp
  have sf := pjoin_self ha hb
  have z8 : ((pjoinL (cleanL a) (cleanL b) (cleanL a) (cleanL b)).1.1 == cleanL a && (pjoinL (cleanL a) (cleanL b) (cleanL a) (cleanL b)).1.2 == cleanL b) = true := by rw [sf]; simp
  have z9 : (pjoinL (cleanL a) (cleanL b) (cleanL a) (cleanL b)).2 = true := by rw [sf]
  ((conv => whnf); repeat ((first | refine CodeS.step ?_ | refine RegS.step ?_ | refine RegXS.step ?_); (conv => whnf)))
  refine ⟨_, loadAggK rfl e3 rfl rfl (Nat.le_of_ble_eq_true rfl) rfl, ?_⟩; ((conv => whnf); repeat ((first | refine CodeS.step ?_ | refine RegS.step ?_ | refine RegXS.step ?_); (conv => whnf)))
  refine ⟨_, loadAggK rfl e3 rfl rfl (Nat.le_of_ble_eq_true rfl) rfl, ?_⟩; ((conv => whnf); repeat ((first | refine CodeS.step ?_ | refine RegS.step ?_ | refine RegXS.step ?_); (conv => whnf)))
  refine ⟨_, _, pjoin_ok (cleanL_nonneg ha) (cleanL_nonneg hb) (cleanL_nonneg ha) (cleanL_nonneg hb), ?_⟩; ((conv => whnf); repeat ((first | refine CodeS.step ?_ | refine RegS.step ?_ | refine RegXS.step ?_); (conv => whnf)))
  refine ⟨_, _, allocPair, fun h15 n15 => ?_⟩; ((conv => whnf); repeat ((first | refine CodeS.step ?_ | refine RegS.step ?_ | refine RegXS.step ?_); (conv => whnf)))
  refine storeK rfl n15.get rfl rfl rfl (Nat.le_of_ble_eq_true rfl) rfl fun h16 u16 => ?_; ((conv => whnf); repeat ((first | refine CodeS.step ?_ | refine RegS.step ?_ | refine RegXS.step ?_); (conv => whnf)))
  have s13 := Heap.lt_of_get e3
  have e3 := u16.keep (k := h1.size) (by omega) (n15.keep e3)
  have E := u16.ext (n15.exts E) E.1
  refine ⟨_, rfl, fun _ => ?_, (fun hx => nomatch (hx.symm.trans z7'))⟩; ((conv => whnf); repeat ((first | refine CodeS.step ?_ | refine RegS.step ?_ | refine RegXS.step ?_); (conv => whnf)))
  refine ⟨_, loadAggK rfl u16.get rfl rfl (Nat.le_of_ble_eq_true rfl) rfl, ?_⟩; ((conv => whnf); repeat ((first | refine CodeS.step ?_ | refine RegS.step ?_ | refine RegXS.step ?_); (conv => whnf)))
  refine ⟨_, loadAggK rfl e3 rfl rfl (Nat.le_of_ble_eq_true rfl) rfl, ?_⟩; ((conv => whnf); repeat ((first | refine CodeS.step ?_ | refine RegS.step ?_ | refine RegXS.step ?_); (conv => whnf)))
  refine ⟨_, eqPair rfl rfl, ?_⟩; ((conv => whnf); repeat ((first | refine CodeS.step ?_ | refine RegS.step ?_ | refine RegXS.step ?_); (conv => whnf)))
  refine ⟨_, rfl, fun _ => ?_, (fun hx => nomatch (hx.symm.trans z8))⟩; ((conv => whnf); repeat ((first | refine CodeS.step ?_ | refine RegS.step ?_ | refine RegXS.step ?_); (conv => whnf)))
  refine ⟨_, rfl, fun _ => ?_, (fun hx => nomatch (hx.symm.trans z9))⟩; ((conv => whnf); repeat ((first | refine CodeS.step ?_ | refine RegS.step ?_ | refine RegXS.step ?_); (conv => whnf)))
  refine ⟨_, _, lives2_ok (hv.ext E), ?_⟩; ((conv => whnf); repeat ((first | refine CodeS.step ?_ | refine RegS.step ?_ | refine RegXS.step ?_); (conv => whnf)))
  exact ⟨rfl, E⟩

def sh3 : Sh := .pair shPair (.pair shPair (.pair shPair .unit))
theorem pairsJoin_call (h : Heap) (x : DenL [(sh3, true)]) (avs : List Value) (hv : Vars h) (r : RepL h [(sh3, true)] x avs) : CallD Tryd.prog NG 8 ⟨avs⟩ h (.bool true) h := by
  obtain ⟨⟨⟨a, b, _⟩, ⟨a', b', _⟩, ⟨c, d, _⟩, _⟩, _⟩ := x
  obtain ⟨_, _, rfl, w, ⟨cs, r1, rfl⟩, rfl⟩ := r
  obtain ⟨⟨w1, w2, _⟩, ⟨w3, w4, _⟩, ⟨w5, w6, _⟩, _⟩ := w
  obtain ⟨_, _, rfl, ⟨_, _, rfl, q1, _, _, rfl, q2, q3⟩, _, _, rfl, ⟨_, _, rfl, q4, _, _, rfl, q5, q6⟩, _, _, rfl, ⟨_, _, rfl, q7, _, _, rfl, q8, q9⟩, q10⟩ := r1
  simp only [Rep] at q1 q2 q3 q4 q5 q6 q7 q8 q9 q10
  subst q1 q2 q3 q4 q5 q6 q7 q8 q9 q10
  exact pairsJoin_run hv (u8_wf w1).1 (u8_wf w2).1 (u8_wf w3).1 (u8_wf w4).1 (u8_wf w5).1 (u8_wf w6).1
end Go.Proofs.YtbfgncmnallhlaaDoor
