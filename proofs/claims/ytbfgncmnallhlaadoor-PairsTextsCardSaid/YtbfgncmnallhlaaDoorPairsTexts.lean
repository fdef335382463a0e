/-
  The law PairsTexts: its walk.
-/
import Derived.Test.YtbfgncmnallhlaaDoorTexts
import Derived.Test.YtbfgncmnallhlaaDoorPairsFive
namespace Go.Proofs.YtbfgncmnallhlaaDoor
open Go.Abs
set_option maxRecDepth 100000

theorem clean_small {i : Nat} (h : i < 4) : cleanL (Int.ofNat i) = Int.ofNat i := by
  unfold cleanL
  rw [if_neg (by simp only [Int.ofNat_eq_natCast]; omega)]

theorem tb_inj : ∀ (x y x' y' : Fin 4), tb (Int.ofNat x.val) (Int.ofNat y.val) = tb (Int.ofNat x'.val) (Int.ofNat y'.val) → x = x' ∧ y = y' := by decide +kernel
theorem tb_inj' {x y x' y' : Int} (h1 : 0 ≤ x ∧ x ≤ 3) (h2 : 0 ≤ y ∧ y ≤ 3) (h3 : 0 ≤ x' ∧ x' ≤ 3) (h4 : 0 ≤ y' ∧ y' ≤ 3) (h : tb x y = tb x' y') : x = x' ∧ y = y' := by
  obtain ⟨x, rfl⟩ := Int.eq_ofNat_of_zero_le h1.1
  obtain ⟨y, rfl⟩ := Int.eq_ofNat_of_zero_le h2.1
  obtain ⟨x', rfl⟩ := Int.eq_ofNat_of_zero_le h3.1
  obtain ⟨y', rfl⟩ := Int.eq_ofNat_of_zero_le h4.1
  have := tb_inj ⟨x, by omega⟩ ⟨y, by omega⟩ ⟨x', by omega⟩ ⟨y', by omega⟩ h
  simp only [Fin.mk.injEq] at this
  rw [this.1, this.2]
  exact ⟨rfl, rfl⟩

theorem parse_ok (h : Heap) (s : ByteArray) : (∃ i j : Nat, i < 4 ∧ j < 4 ∧ tb (Int.ofNat i) (Int.ofNat j) = s.data.toList ∧ CallD Tryd.prog NG 19 #[.string s] h (.tuple #[pr (Int.ofNat i) (Int.ofNat j), .int .i64 0]) h) ∨
    ((∀ i j : Nat, i < 4 → j < 4 → tb (Int.ofNat i) (Int.ofNat j) ≠ s.data.toList) ∧ CallD Tryd.prog NG 19 #[.string s] h (.tuple #[pr 0 0, .int .i64 4]) h) := by
  have main : ∃ v h', CallD Tryd.prog NG 19 #[.string s] h v h' ∧ Ext h h' ∧ ((∃ i j : Nat, i < 4 ∧ j < 4 ∧ tb (Int.ofNat i) (Int.ofNat j) = s.data.toList ∧ v = .tuple #[pr (Int.ofNat i) (Int.ofNat j), .int .i64 0]) ∨
      ((∀ i j : Nat, i < 4 → j < 4 → tb (Int.ofNat i) (Int.ofNat j) ≠ s.data.toList) ∧ v = .tuple #[pr 0 0, .int .i64 4])) := by
    refine fnG hM Tryd.func19 rfl (hP _ _ rfl Tryd.func19) (Nat.le_of_ble_eq_true rfl) ?_; ((conv => whnf); repeat ((first | refine CodeS.step ?_ | refine RegS.step ?_ | refine RegXS.step ?_); (conv => whnf)))
    refine ⟨_, _, allocPair, fun h1 n1 => ?_⟩; ((conv => whnf); repeat ((first | refine CodeS.step ?_ | refine RegS.step ?_ | refine RegXS.step ?_); (conv => whnf)))
    refine loopG (σ := Nat) (nn := 24) hM (by kernel_rfl) (fun i h2 => i ≤ 4 ∧ Ext h h2 ∧ h2.get h.size = some (.cells [.int .u8 0, .int .u8 0] false) ∧ ∀ x y : Nat, x < i → y < 4 → tb (Int.ofNat x) (Int.ofNat y) ≠ s.data.toList)
      (fun i => [(0, .string s), (2, .pointer (some ⟨h.size, 0, none⟩)), (7, .int .u8 (Int.ofNat i))]) (fun i => 4 - i) rfl
      ⟨0, ⟨by decide, n1.ext, n1.get, fun x y hx => by omega⟩, rfl, rfl, rfl, trivial⟩ ?_
    rintro i base h2 ⟨hi, E, G, F⟩
    ((conv => whnf); repeat ((first | refine CodeS.step ?_ | refine RegS.step ?_ | refine RegXS.step ?_); (conv => whnf)))
    refine ⟨_, rfl, fun hc => ?_, fun hc => ?_⟩
    · have hi4 : i < 4 := lt_of_ltI (b := 4) hc
      ((conv => whnf); repeat ((first | refine CodeS.step ?_ | refine RegS.step ?_ | refine RegXS.step ?_); (conv => whnf)))
      refine loopG (σ := Nat) (nn := 24) hM (by kernel_rfl) (fun j h3 => j ≤ 4 ∧ Ext h h3 ∧ h3.get h.size = some (.cells [.int .u8 0, .int .u8 0] false) ∧ ∀ y : Nat, y < j → tb (Int.ofNat i) (Int.ofNat y) ≠ s.data.toList)
        (fun j => [(0, .string s), (2, .pointer (some ⟨h.size, 0, none⟩)), (4, .int .u8 (Int.ofNat i)), (7, .int .u8 (Int.ofNat i)), (10, .int .u8 (Int.ofNat j))]) (fun j => 4 - j) rfl
        ⟨0, ⟨by decide, E, G, fun y hy => by omega⟩, rfl, rfl, rfl, rfl, rfl, trivial⟩ ?_
      rintro j base h3 ⟨hj, E3, G3, F3⟩
      ((conv => whnf); repeat ((first | refine CodeS.step ?_ | refine RegS.step ?_ | refine RegXS.step ?_); (conv => whnf)))
      refine ⟨_, rfl, fun hc => ?_, fun hc => ?_⟩
      · have hj4 : j < 4 := lt_of_ltI (b := 4) hc
        ((conv => whnf); repeat ((first | refine CodeS.step ?_ | refine RegS.step ?_ | refine RegXS.step ?_); (conv => whnf)))
        refine ⟨_, buildPair rfl, ?_⟩; ((conv => whnf); repeat ((first | refine CodeS.step ?_ | refine RegS.step ?_ | refine RegXS.step ?_); (conv => whnf)))
        refine ⟨_, _, allocPair, fun h4 n4 => ?_⟩; ((conv => whnf); repeat ((first | refine CodeS.step ?_ | refine RegS.step ?_ | refine RegXS.step ?_); (conv => whnf)))
        refine storeK rfl n4.get rfl rfl rfl (Nat.le_of_ble_eq_true rfl) rfl fun h5 u5 => ?_; ((conv => whnf); repeat ((first | refine CodeS.step ?_ | refine RegS.step ?_ | refine RegXS.step ?_); (conv => whnf)))
        have e6 : h5.get h3.size = some (.cells [.int .u8 (Int.ofNat i), .int .u8 (Int.ofNat j)] false) := u5.get
        have E5 : Ext h h5 := u5.ext (n4.exts E3) E3.1
        have X3 := Heap.lt_of_get G3
        have G5 := u5.keep (k := h.size) (by omega) (n4.keep G3)
        refine ⟨_, loadAggK rfl e6 rfl rfl (Nat.le_of_ble_eq_true rfl) rfl, ?_⟩; ((conv => whnf); repeat ((first | refine CodeS.step ?_ | refine RegS.step ?_ | refine RegXS.step ?_); (conv => whnf)))
        refine ⟨_, _, text_ok (Int.natCast_nonneg i) (Int.natCast_nonneg j), ?_⟩; ((conv => whnf); repeat ((first | refine CodeS.step ?_ | refine RegS.step ?_ | refine RegXS.step ?_); (conv => whnf)))
        refine ⟨_, strEqK rfl rfl rfl, ?_⟩; ((conv => whnf); repeat ((first | refine CodeS.step ?_ | refine RegS.step ?_ | refine RegXS.step ?_); (conv => whnf)))
        refine ⟨_, rfl, fun hm => ?_, fun hm => ?_⟩
        · have hm : (tb (cleanL (Int.ofNat i)) (cleanL (Int.ofNat j)) == s.data.toList) = true := hm
          rw [beq_iff_eq, clean_small hi4, clean_small hj4] at hm
          ((conv => whnf); repeat ((first | refine CodeS.step ?_ | refine RegS.step ?_ | refine RegXS.step ?_); (conv => whnf)))
          refine ⟨_, loadAggK rfl e6 rfl rfl (Nat.le_of_ble_eq_true rfl) rfl, ?_⟩; ((conv => whnf); repeat ((first | refine CodeS.step ?_ | refine RegS.step ?_ | refine RegXS.step ?_); (conv => whnf)))
          refine storeK rfl G5 rfl rfl rfl (Nat.le_of_ble_eq_true rfl) rfl fun h6 u6 => ?_; ((conv => whnf); repeat ((first | refine CodeS.step ?_ | refine RegS.step ?_ | refine RegXS.step ?_); (conv => whnf)))
          refine ⟨_, resAggK rfl rfl u6.get rfl rfl (Nat.le_of_ble_eq_true rfl) rfl, ?_⟩; ((conv => whnf); repeat ((first | refine CodeS.step ?_ | refine RegS.step ?_ | refine RegXS.step ?_); (conv => whnf)))
          exact ⟨u6.ext E5 (Nat.le_refl _), .inl ⟨i, j, hi4, hj4, hm, rfl⟩⟩
        · have hm : (tb (cleanL (Int.ofNat i)) (cleanL (Int.ofNat j)) == s.data.toList) = false := hm
          rw [beq_eq_false_iff_ne, clean_small hi4, clean_small hj4] at hm
          ((conv => whnf); repeat ((first | refine CodeS.step ?_ | refine RegS.step ?_ | refine RegXS.step ?_); (conv => whnf)))
          refine ⟨_, addU8K (b := 1) rfl rfl (by omega), ?_⟩; ((conv => whnf); repeat ((first | refine CodeS.step ?_ | refine RegS.step ?_ | refine RegXS.step ?_); (conv => whnf)))
          refine ⟨j + 1, by omega, ⟨by omega, E5, G5, fun y hy => ?_⟩, rfl, rfl, rfl, rfl, rfl, trivial⟩
          by_cases e : y = j
          · subst e; exact hm
          · exact F3 y (by omega)
      · have hj4 : 4 ≤ j := ge_of_ltI (b := 4) hc
        obtain rfl : j = 4 := by omega
        ((conv => whnf); repeat ((first | refine CodeS.step ?_ | refine RegS.step ?_ | refine RegXS.step ?_); (conv => whnf)))
        refine ⟨_, addU8K (b := 1) rfl rfl (by omega), ?_⟩; ((conv => whnf); repeat ((first | refine CodeS.step ?_ | refine RegS.step ?_ | refine RegXS.step ?_); (conv => whnf)))
        refine ⟨i + 1, by omega, ⟨by omega, E3, G3, fun x y hx hy => ?_⟩, rfl, rfl, rfl, trivial⟩
        by_cases e : x = i
        · subst e; exact F3 y hy
        · exact F x y (by omega) hy
    · have hi4 : 4 ≤ i := ge_of_ltI (b := 4) hc
      obtain rfl : i = 4 := by omega
      ((conv => whnf); repeat ((first | refine CodeS.step ?_ | refine RegS.step ?_ | refine RegXS.step ?_); (conv => whnf)))
      refine ⟨_, apure_build zeroPair plainsPair builtNone rfl, ?_⟩; ((conv => whnf); repeat ((first | refine CodeS.step ?_ | refine RegS.step ?_ | refine RegXS.step ?_); (conv => whnf)))
      refine storeK rfl G rfl rfl rfl (Nat.le_of_ble_eq_true rfl) rfl fun h3 u3 => ?_; ((conv => whnf); repeat ((first | refine CodeS.step ?_ | refine RegS.step ?_ | refine RegXS.step ?_); (conv => whnf)))
      refine ⟨_, resAggK rfl rfl u3.get rfl rfl (Nat.le_of_ble_eq_true rfl) rfl, ?_⟩; ((conv => whnf); repeat ((first | refine CodeS.step ?_ | refine RegS.step ?_ | refine RegXS.step ?_); (conv => whnf)))
      exact ⟨u3.ext E (Nat.le_refl _), .inr ⟨F, rfl⟩⟩
  obtain ⟨v, h', c, e, ⟨i, j, h1, h2, h3, rfl⟩ | ⟨h1, rfl⟩⟩ := main
  · exact .inl ⟨i, j, h1, h2, h3, c.drop e (by kernel_rfl)⟩
  · exact .inr ⟨h1, c.drop e (by kernel_rfl)⟩

theorem parse_own (h : Heap) {a b : Int} (ha : 0 ≤ a) (hb : 0 ≤ b) : CallD Tryd.prog NG 19 #[S (tb (cleanL a) (cleanL b))] h (.tuple #[pr (cleanL a) (cleanL b), .int .i64 0]) h := by
  have h1 := clean_range ha
  have h2 := clean_range hb
  rcases parse_ok h ⟨(tb (cleanL a) (cleanL b)).toArray⟩ with ⟨i, j, hi, hj, e, c⟩ | ⟨n, _⟩
  · obtain ⟨e1, e2⟩ := tb_inj' (x := Int.ofNat i) (y := Int.ofNat j) (by simp only [Int.ofNat_eq_natCast]; omega) (by simp only [Int.ofNat_eq_natCast]; omega) h1 h2 e
    rw [e1, e2] at c
    exact c
  · exfalso
    obtain ⟨x, hx⟩ := Int.eq_ofNat_of_zero_le h1.1
    obtain ⟨y, hy⟩ := Int.eq_ofNat_of_zero_le h2.1
    refine n x y (by omega) (by omega) ?_
    show tb (x : Int) (y : Int) = tb (cleanL a) (cleanL b)
    rw [hx, hy]

theorem pairsTexts_run {h : Heap} (hv : Vars h) {s : ByteArray} {a b c d : Int} (ha : 0 ≤ a) (hb : 0 ≤ b) (hc0 : 0 ≤ c) (hd : 0 ≤ d) : CallD Tryd.prog NG 5 #[.string s, pr a b, pr c d] h (.bool true) h := by
  refine fnP hM Tryd.func5 rfl (hP _ _ rfl Tryd.func5) (Nat.le_of_ble_eq_true rfl) (by kernel_rfl) ?_; ((conv => whnf); repeat ((first | refine CodeS.step ?_ | refine RegS.step ?_ | refine RegXS.step ?_); (conv => whnf)))
  refine ⟨_, _, boxK rfl, fun h1 n1 => ?_⟩; ((conv => whnf); repeat ((first | refine CodeS.step ?_ | refine RegS.step ?_ | refine RegXS.step ?_); (conv => whnf)))
  refine ⟨_, _, boxK rfl, fun h2 n2 => ?_⟩; ((conv => whnf); repeat ((first | refine CodeS.step ?_ | refine RegS.step ?_ | refine RegXS.step ?_); (conv => whnf)))
  have e4 : h2.get h.size = some (.cells [.int .u8 a, .int .u8 b] false) := n2.keep n1.get
  have e5 : h2.get h1.size = some (.cells [.int .u8 c, .int .u8 d] false) := n2.get
  have E : Ext h h2 := n2.exts n1.ext
  refine ⟨_, lenStrK rfl rfl, ?_⟩; ((conv => whnf); repeat ((first | refine CodeS.step ?_ | refine RegS.step ?_ | refine RegXS.step ?_); (conv => whnf)))
  refine ⟨_, rfl, fun hc => ?_, fun hc => ?_⟩
  · ((conv => whnf); repeat ((first | refine CodeS.step ?_ | refine RegS.step ?_ | refine RegXS.step ?_); (conv => whnf)))
    refine ⟨_, _, lives2_ok (hv.ext E), ?_⟩; ((conv => whnf); repeat ((first | refine CodeS.step ?_ | refine RegS.step ?_ | refine RegXS.step ?_); (conv => whnf)))
    exact ⟨rfl, E⟩
  clear hc
  obtain ⟨x, y, e, cp, hp⟩ : ∃ x y e : Int, CallD Tryd.prog NG 19 #[.string s] h2 (.tuple #[pr x y, .int .i64 e]) h2 ∧ ((e = 0 ∧ (0 ≤ x ∧ x ≤ 3) ∧ (0 ≤ y ∧ y ≤ 3) ∧ tb x y = s.data.toList) ∨ (e = 4 ∧ x = 0 ∧ y = 0)) := by
    rcases parse_ok h2 s with ⟨i, j, hi, hj, he, cp⟩ | ⟨_, cp⟩
    · exact ⟨_, _, _, cp, .inl ⟨rfl, by simp only [Int.ofNat_eq_natCast]; omega, by simp only [Int.ofNat_eq_natCast]; omega, he⟩⟩
    · exact ⟨_, _, _, cp, .inr ⟨rfl, rfl, rfl⟩⟩
  ((conv => whnf); repeat ((first | refine CodeS.step ?_ | refine RegS.step ?_ | refine RegXS.step ?_); (conv => whnf)))
  refine ⟨_, _, cp, ?_⟩; ((conv => whnf); repeat ((first | refine CodeS.step ?_ | refine RegS.step ?_ | refine RegXS.step ?_); (conv => whnf)))
  refine ⟨_, _, allocPair, fun h3 n3 => ?_⟩; ((conv => whnf); repeat ((first | refine CodeS.step ?_ | refine RegS.step ?_ | refine RegXS.step ?_); (conv => whnf)))
  refine storeK rfl n3.get rfl rfl rfl (Nat.le_of_ble_eq_true rfl) rfl fun h40 u40 => ?_; ((conv => whnf); repeat ((first | refine RegS.step ?_ | refine RegXS.step ?_); (conv => whnf)))
  have s1 := n1.size
  have s2 := n2.size
  have s3 := n3.size
  have E40 : Ext h h40 := u40.ext (n3.exts E) E.1
  have e7 : h40.get h2.size = some (.cells [.int .u8 x, .int .u8 y] false) := u40.get
  have e4' := u40.keep (k := h.size) (by omega) (n3.keep e4)
  have e5' := u40.keep (k := h1.size) (by omega) (n3.keep e5)
  refine CodeS.join (nn := 110) (fun h' => h' = h40) [(4, .pointer (some ⟨h.size, 0, none⟩)), (5, .pointer (some ⟨h1.size, 0, none⟩))] rfl ?_ ?_
  · rcases hp with ⟨rfl, hx, hy, ht⟩ | ⟨rfl, rfl, rfl⟩
    · have z : (!(tb (cleanL x) (cleanL y) == s.data.toList)) = false := by
        rw [show cleanL x = x by unfold cleanL; rw [if_neg (by omega)], show cleanL y = y by unfold cleanL; rw [if_neg (by omega)], ht]; simp
      ((conv => whnf); repeat ((first | refine CodeS.step ?_ | refine RegS.step ?_ | refine RegXS.step ?_); (conv => whnf)))
      refine ⟨false, rfl, (fun hc => nomatch hc), fun _ => ?_⟩; ((conv => whnf); repeat ((first | refine CodeS.step ?_ | refine RegS.step ?_ | refine RegXS.step ?_); (conv => whnf)))
      refine ⟨false, rfl, (fun hc => nomatch hc), fun _ => ?_⟩; ((conv => whnf); repeat ((first | refine CodeS.step ?_ | refine RegS.step ?_ | refine RegXS.step ?_); (conv => whnf)))
      refine ⟨true, rfl, fun _ => ?_, (fun hc => nomatch hc)⟩; ((conv => whnf); repeat ((first | refine CodeS.step ?_ | refine RegS.step ?_ | refine RegXS.step ?_); (conv => whnf)))
      refine ⟨_, loadAggK rfl e7 rfl rfl (Nat.le_of_ble_eq_true rfl) rfl, ?_⟩; ((conv => whnf); repeat ((first | refine CodeS.step ?_ | refine RegS.step ?_ | refine RegXS.step ?_); (conv => whnf)))
      refine ⟨_, _, text_ok hx.1 hy.1, ?_⟩; ((conv => whnf); repeat ((first | refine CodeS.step ?_ | refine RegS.step ?_ | refine RegXS.step ?_); (conv => whnf)))
      refine ⟨_, strNeK rfl rfl rfl, ?_⟩; ((conv => whnf); repeat ((first | refine CodeS.step ?_ | refine RegS.step ?_ | refine RegXS.step ?_); (conv => whnf)))
      refine ⟨_, rfl, (fun hx => nomatch (hx.symm.trans z)), fun _ => ?_⟩; ((conv => whnf); repeat ((first | refine CodeS.step ?_ | refine RegS.step ?_ | refine RegXS.step ?_); (conv => whnf)))
      exact ⟨rfl, rfl, rfl, trivial⟩
    · ((conv => whnf); repeat ((first | refine CodeS.step ?_ | refine RegS.step ?_ | refine RegXS.step ?_); (conv => whnf)))
      refine ⟨true, rfl, fun _ => ?_, (fun hc => nomatch hc)⟩; ((conv => whnf); repeat ((first | refine CodeS.step ?_ | refine RegS.step ?_ | refine RegXS.step ?_); (conv => whnf)))
      refine ⟨false, rfl, (fun hc => nomatch hc), fun _ => ?_⟩; ((conv => whnf); repeat ((first | refine CodeS.step ?_ | refine RegS.step ?_ | refine RegXS.step ?_); (conv => whnf)))
      refine ⟨_, loadAggK rfl e7 rfl rfl (Nat.le_of_ble_eq_true rfl) rfl, ?_⟩; ((conv => whnf); repeat ((first | refine CodeS.step ?_ | refine RegS.step ?_ | refine RegXS.step ?_); (conv => whnf)))
      refine ⟨_, apure_build zeroPair plainsPair builtNone rfl, ?_⟩; ((conv => whnf); repeat ((first | refine CodeS.step ?_ | refine RegS.step ?_ | refine RegXS.step ?_); (conv => whnf)))
      refine ⟨_, nePair rfl rfl, ?_⟩; ((conv => whnf); repeat ((first | refine CodeS.step ?_ | refine RegS.step ?_ | refine RegXS.step ?_); (conv => whnf)))
      refine ⟨false, rfl, (fun hc => nomatch hc), fun _ => ?_⟩; ((conv => whnf); repeat ((first | refine CodeS.step ?_ | refine RegS.step ?_ | refine RegXS.step ?_); (conv => whnf)))
      refine ⟨false, rfl, (fun hc => nomatch hc), fun _ => ?_⟩; ((conv => whnf); repeat ((first | refine CodeS.step ?_ | refine RegS.step ?_ | refine RegXS.step ?_); (conv => whnf)))
      refine ⟨false, rfl, (fun hc => nomatch hc), fun _ => ?_⟩; ((conv => whnf); repeat ((first | refine CodeS.step ?_ | refine RegS.step ?_ | refine RegXS.step ?_); (conv => whnf)))
      exact ⟨rfl, rfl, rfl, trivial⟩
  rintro base h41 rfl
  have ca := clean_range ha
  have cb := clean_range hb
  ((conv => whnf); repeat ((first | refine CodeS.step ?_ | refine RegS.step ?_ | refine RegXS.step ?_); (conv => whnf)))
  refine ⟨_, loadAggK rfl e4' rfl rfl (Nat.le_of_ble_eq_true rfl) rfl, ?_⟩; ((conv => whnf); repeat ((first | refine CodeS.step ?_ | refine RegS.step ?_ | refine RegXS.step ?_); (conv => whnf)))
  refine ⟨_, _, text_ok ha hb, ?_⟩; ((conv => whnf); repeat ((first | refine CodeS.step ?_ | refine RegS.step ?_ | refine RegXS.step ?_); (conv => whnf)))
  refine ⟨_, _, parse_own h41 ha hb, ?_⟩; ((conv => whnf); repeat ((first | refine CodeS.step ?_ | refine RegS.step ?_ | refine RegXS.step ?_); (conv => whnf)))
  refine ⟨_, _, allocPair, fun h5 n5 => ?_⟩; ((conv => whnf); repeat ((first | refine CodeS.step ?_ | refine RegS.step ?_ | refine RegXS.step ?_); (conv => whnf)))
  refine storeK rfl n5.get rfl rfl rfl (Nat.le_of_ble_eq_true rfl) rfl fun h6 u6 => ?_; ((conv => whnf); repeat ((first | refine CodeS.step ?_ | refine RegS.step ?_ | refine RegXS.step ?_); (conv => whnf)))
  have s5 := n5.size
  have s6 := u6.size
  have E6 : Ext h h6 := u6.ext (n5.exts E40) E40.1
  have X1 := Heap.lt_of_get e4'
  have X2 := Heap.lt_of_get e5'
  have e4 : h6.get h.size = some (.cells [.int .u8 a, .int .u8 b] false) := u6.keep (by omega) (n5.keep e4')
  have e5 : h6.get h1.size = some (.cells [.int .u8 c, .int .u8 d] false) := u6.keep (by omega) (n5.keep e5')
  have e10 : h6.get h41.size = some (.cells [.int .u8 (cleanL a), .int .u8 (cleanL b)] false) := u6.get
  refine ⟨_, loadK rfl e4 rfl rfl, ?_⟩; ((conv => whnf); repeat ((first | refine CodeS.step ?_ | refine RegS.step ?_ | refine RegXS.step ?_); (conv => whnf)))
  refine ⟨.inl rfl, ?_⟩; ((conv => whnf); repeat ((first | refine CodeS.step ?_ | refine RegS.step ?_ | refine RegXS.step ?_); (conv => whnf)))
  refine ⟨_, _, buildK (vs := [u8 a]) (s := 1) rfl rfl zeroValue plainsValue rfl rfl rfl rfl (one_mem rfl), fun h7 n7 => ?_⟩; ((conv => whnf); repeat ((first | refine CodeS.step ?_ | refine RegS.step ?_ | refine RegXS.step ?_); (conv => whnf)))
  refine ⟨_, _, ltext_ok (sl_one n7.get) (one_nn ha) (by simp), ?_⟩; ((conv => whnf); repeat ((first | refine CodeS.step ?_ | refine RegS.step ?_ | refine RegXS.step ?_); (conv => whnf)))
  refine ⟨.inl (Ext.refl _), ?_⟩; ((conv => whnf); repeat ((first | refine CodeS.step ?_ | refine RegS.step ?_ | refine RegXS.step ?_); (conv => whnf)))
  refine ⟨_, strAddK rfl rfl (Nat.le_of_ble_eq_true rfl), ?_⟩; ((conv => whnf); repeat ((first | refine CodeS.step ?_ | refine RegS.step ?_ | refine RegXS.step ?_); (conv => whnf)))
  have e4'' := n7.keep e4
  refine ⟨_, loadK rfl e4'' rfl rfl, ?_⟩; ((conv => whnf); repeat ((first | refine CodeS.step ?_ | refine RegS.step ?_ | refine RegXS.step ?_); (conv => whnf)))
  refine ⟨.inl rfl, ?_⟩; ((conv => whnf); repeat ((first | refine CodeS.step ?_ | refine RegS.step ?_ | refine RegXS.step ?_); (conv => whnf)))
  refine ⟨_, _, buildK (vs := [u8 b]) (s := 1) rfl rfl zeroValue plainsValue rfl rfl rfl rfl (one_mem rfl), fun h8 n8 => ?_⟩; ((conv => whnf); repeat ((first | refine CodeS.step ?_ | refine RegS.step ?_ | refine RegXS.step ?_); (conv => whnf)))
  refine ⟨_, _, ltext_ok (sl_one n8.get) (one_nn hb) (by simp), ?_⟩; ((conv => whnf); repeat ((first | refine RegS.step ?_ | refine RegXS.step ?_); (conv => whnf)))
  refine ⟨.inl (Ext.refl _), ?_⟩; ((conv => whnf); repeat ((first | refine RegS.step ?_ | refine RegXS.step ?_); (conv => whnf)))
  refine ⟨_, strAddK rfl rfl (Nat.le_of_ble_eq_true rfl), ?_⟩; ((conv => whnf); repeat ((first | refine RegS.step ?_ | refine RegXS.step ?_); (conv => whnf)))
  have E8 : Ext h h8 := n8.exts (n7.exts E6)
  have e4 := n8.keep (n7.keep e4)
  have e5 := n8.keep (n7.keep e5)
  have e10 := n8.keep (n7.keep e10)
  refine CodeS.join (nn := 110) (fun h' => Ext h h' ∧ h'.get h.size = some (.cells [.int .u8 a, .int .u8 b] false) ∧ h'.get h1.size = some (.cells [.int .u8 c, .int .u8 d] false) ∧ h'.get h41.size = some (.cells [.int .u8 (cleanL a), .int .u8 (cleanL b)] false))
    [(4, .pointer (some ⟨h.size, 0, none⟩)), (5, .pointer (some ⟨h1.size, 0, none⟩)), (9, S (tb (cleanL a) (cleanL b))), (10, .pointer (some ⟨h41.size, 0, none⟩)), (11, .int .i64 0), (12, S (tb (cleanL a) (cleanL b)))] rfl ?_ ?_
  · ((conv => whnf); repeat ((first | refine CodeS.step ?_ | refine RegS.step ?_ | refine RegXS.step ?_); (conv => whnf)))
    refine ⟨_, loadAggK rfl e4 rfl rfl (Nat.le_of_ble_eq_true rfl) rfl, ?_⟩; ((conv => whnf); repeat ((first | refine CodeS.step ?_ | refine RegS.step ?_ | refine RegXS.step ?_); (conv => whnf)))
    refine ⟨_, _, lclean_ok ha hb, ?_⟩; ((conv => whnf); repeat ((first | refine CodeS.step ?_ | refine RegS.step ?_ | refine RegXS.step ?_); (conv => whnf)))
    refine ⟨_, _, D_ok, ?_⟩; ((conv => whnf); repeat ((first | refine CodeS.step ?_ | refine RegS.step ?_ | refine RegXS.step ?_); (conv => whnf)))
    refine ⟨_, eqPair rfl rfl, ?_⟩; ((conv => whnf); repeat ((first | refine CodeS.step ?_ | refine RegS.step ?_ | refine RegXS.step ?_); (conv => whnf)))
    refine ⟨_, rfl, fun hc => ?_, fun hc => ?_⟩
    · have hc : eqP (cleanL a) (cleanL b) 1 0 = true := hc
      ((conv => whnf); repeat ((first | refine CodeS.step ?_ | refine RegS.step ?_ | refine RegXS.step ?_); (conv => whnf)))
      exact ⟨⟨E8, e4, e5, e10⟩, rfl, rfl, rfl, rfl, rfl, by unfold tb; rw [if_pos hc]; rfl, trivial⟩
    have hc10 : eqP (cleanL a) (cleanL b) 1 0 = false := hc
    ((conv => whnf); repeat ((first | refine CodeS.step ?_ | refine RegS.step ?_ | refine RegXS.step ?_); (conv => whnf)))
    refine ⟨_, loadAggK rfl e4 rfl rfl (Nat.le_of_ble_eq_true rfl) rfl, ?_⟩; ((conv => whnf); repeat ((first | refine CodeS.step ?_ | refine RegS.step ?_ | refine RegXS.step ?_); (conv => whnf)))
    refine ⟨_, _, lclean_ok ha hb, ?_⟩; ((conv => whnf); repeat ((first | refine CodeS.step ?_ | refine RegS.step ?_ | refine RegXS.step ?_); (conv => whnf)))
    refine ⟨_, _, B_ok, ?_⟩; ((conv => whnf); repeat ((first | refine CodeS.step ?_ | refine RegS.step ?_ | refine RegXS.step ?_); (conv => whnf)))
    refine ⟨_, eqPair rfl rfl, ?_⟩; ((conv => whnf); repeat ((first | refine CodeS.step ?_ | refine RegS.step ?_ | refine RegXS.step ?_); (conv => whnf)))
    refine ⟨_, rfl, fun hc => ?_, fun hc => ?_⟩
    · have hc : eqP (cleanL a) (cleanL b) 0 1 = true := hc
      ((conv => whnf); repeat ((first | refine CodeS.step ?_ | refine RegS.step ?_ | refine RegXS.step ?_); (conv => whnf)))
      exact ⟨⟨E8, e4, e5, e10⟩, rfl, rfl, rfl, rfl, rfl, by unfold tb; rw [if_neg (by rw [hc10]; simp), if_pos hc]; rfl, trivial⟩
    have hc01 : eqP (cleanL a) (cleanL b) 0 1 = false := hc
    ((conv => whnf); repeat ((first | refine CodeS.step ?_ | refine RegS.step ?_ | refine RegXS.step ?_); (conv => whnf)))
    refine ⟨_, loadAggK rfl e4 rfl rfl (Nat.le_of_ble_eq_true rfl) rfl, ?_⟩; ((conv => whnf); repeat ((first | refine CodeS.step ?_ | refine RegS.step ?_ | refine RegXS.step ?_); (conv => whnf)))
    refine ⟨.inl (by kernel_rfl), ?_⟩; ((conv => whnf); repeat ((first | refine CodeS.step ?_ | refine RegS.step ?_ | refine RegXS.step ?_); (conv => whnf)))
    refine ⟨_, _, lclean_ok ha hb, ?_⟩; ((conv => whnf); repeat ((first | refine CodeS.step ?_ | refine RegS.step ?_ | refine RegXS.step ?_); (conv => whnf)))
    refine ⟨.inl (Ext.refl _), ?_⟩; ((conv => whnf); repeat ((first | refine CodeS.step ?_ | refine RegS.step ?_ | refine RegXS.step ?_); (conv => whnf)))
    refine ⟨_, fieldK rfl rfl rfl rfl rfl, ?_⟩; ((conv => whnf); repeat ((first | refine CodeS.step ?_ | refine RegS.step ?_ | refine RegXS.step ?_); (conv => whnf)))
    refine ⟨_, loadAggK rfl e4 rfl rfl (Nat.le_of_ble_eq_true rfl) rfl, ?_⟩; ((conv => whnf); repeat ((first | refine CodeS.step ?_ | refine RegS.step ?_ | refine RegXS.step ?_); (conv => whnf)))
    refine ⟨.inl (by kernel_rfl), ?_⟩; ((conv => whnf); repeat ((first | refine CodeS.step ?_ | refine RegS.step ?_ | refine RegXS.step ?_); (conv => whnf)))
    refine ⟨_, _, lclean_ok ha hb, ?_⟩; ((conv => whnf); repeat ((first | refine CodeS.step ?_ | refine RegS.step ?_ | refine RegXS.step ?_); (conv => whnf)))
    refine ⟨.inl (Ext.refl _), ?_⟩; ((conv => whnf); repeat ((first | refine CodeS.step ?_ | refine RegS.step ?_ | refine RegXS.step ?_); (conv => whnf)))
    refine ⟨_, fieldK rfl rfl rfl rfl rfl, ?_⟩; ((conv => whnf); repeat ((first | refine CodeS.step ?_ | refine RegS.step ?_ | refine RegXS.step ?_); (conv => whnf)))
    refine ⟨_, rfl, fun hc => ?_, fun hc => ?_⟩
    · rw [beq_iff_eq] at hc
      ((conv => whnf); repeat ((first | refine CodeS.step ?_ | refine RegS.step ?_ | refine RegXS.step ?_); (conv => whnf)))
      refine ⟨_, loadK rfl e4 rfl rfl, ?_⟩; ((conv => whnf); repeat ((first | refine CodeS.step ?_ | refine RegS.step ?_ | refine RegXS.step ?_); (conv => whnf)))
      refine ⟨_, _, buildK (vs := [u8 a]) (s := 1) rfl rfl zeroValue plainsValue rfl rfl rfl rfl (one_mem rfl), fun h9 n9 => ?_⟩; ((conv => whnf); repeat ((first | refine CodeS.step ?_ | refine RegS.step ?_ | refine RegXS.step ?_); (conv => whnf)))
      refine ⟨_, _, ltext_ok (sl_one n9.get) (one_nn ha) (by simp), ?_⟩; ((conv => whnf); repeat ((first | refine CodeS.step ?_ | refine RegS.step ?_ | refine RegXS.step ?_); (conv => whnf)))
      exact ⟨⟨n9.exts E8, n9.keep e4, n9.keep e5, n9.keep e10⟩, rfl, rfl, rfl, rfl, rfl, by unfold tb; rw [if_neg (by rw [hc10]; simp), if_neg (by rw [hc01]; simp), if_pos hc]; rfl, trivial⟩
    · rw [beq_eq_false_iff_ne] at hc
      ((conv => whnf); repeat ((first | refine CodeS.step ?_ | refine RegS.step ?_ | refine RegXS.step ?_); (conv => whnf)))
      exact ⟨⟨E8, e4, e5, e10⟩, rfl, rfl, rfl, rfl, rfl, by unfold tb; rw [if_neg (by rw [hc10]; simp), if_neg (by rw [hc01]; simp), if_neg hc]; rfl, trivial⟩
  rintro base h9 ⟨E9, e4, e5, e10⟩
  have z1 : (cleanL a == cleanL a && cleanL b == cleanL b) = true := by simp
  have z2 : (tb (cleanL a) (cleanL b) == tb (cleanL a) (cleanL b)) = true := by simp
  have z3 : ((tb (cleanL a) (cleanL b) == tb (cleanL c) (cleanL d)) == (cleanL a == cleanL c && cleanL b == cleanL d)) = true := by
    by_cases q : tb (cleanL a) (cleanL b) = tb (cleanL c) (cleanL d)
    · obtain ⟨q1, q2⟩ := tb_inj' ca cb (clean_range hc0) (clean_range hd) q
      rw [q1, q2]; simp
    · have q' : (cleanL a == cleanL c && cleanL b == cleanL d) = false := by
        rw [Bool.eq_false_iff]
        intro w
        simp only [Bool.and_eq_true, beq_iff_eq] at w
        exact q (by rw [w.1, w.2])
      rw [q']
      simp [q]
  ((conv => whnf); repeat ((first | refine CodeS.step ?_ | refine RegS.step ?_ | refine RegXS.step ?_); (conv => whnf)))
  refine ⟨true, rfl, fun _ => ?_, (fun hc => nomatch hc)⟩; ((conv => whnf); repeat ((first | refine CodeS.step ?_ | refine RegS.step ?_ | refine RegXS.step ?_); (conv => whnf)))
  refine ⟨_, loadAggK rfl e10 rfl rfl (Nat.le_of_ble_eq_true rfl) rfl, ?_⟩; ((conv => whnf); repeat ((first | refine CodeS.step ?_ | refine RegS.step ?_ | refine RegXS.step ?_); (conv => whnf)))
  refine ⟨.inl (by kernel_rfl), ?_⟩; ((conv => whnf); repeat ((first | refine CodeS.step ?_ | refine RegS.step ?_ | refine RegXS.step ?_); (conv => whnf)))
  refine ⟨_, loadAggK rfl e4 rfl rfl (Nat.le_of_ble_eq_true rfl) rfl, ?_⟩; ((conv => whnf); repeat ((first | refine CodeS.step ?_ | refine RegS.step ?_ | refine RegXS.step ?_); (conv => whnf)))
  refine ⟨.inl (by kernel_rfl), ?_⟩; ((conv => whnf); repeat ((first | refine CodeS.step ?_ | refine RegS.step ?_ | refine RegXS.step ?_); (conv => whnf)))
  refine ⟨_, _, lclean_ok ha hb, ?_⟩; ((conv => whnf); repeat ((first | refine CodeS.step ?_ | refine RegS.step ?_ | refine RegXS.step ?_); (conv => whnf)))
  refine ⟨.inl (Ext.refl _), ?_⟩; ((conv => whnf); repeat ((first | refine CodeS.step ?_ | refine RegS.step ?_ | refine RegXS.step ?_); (conv => whnf)))
  refine ⟨_, eqPair rfl rfl, ?_⟩; ((conv => whnf); repeat ((first | refine CodeS.step ?_ | refine RegS.step ?_ | refine RegXS.step ?_); (conv => whnf)))
  refine ⟨_, rfl, fun _ => ?_, (fun hx => nomatch (hx.symm.trans z1))⟩; ((conv => whnf); repeat ((first | refine CodeS.step ?_ | refine RegS.step ?_ | refine RegXS.step ?_); (conv => whnf)))
  refine ⟨_, strEqK rfl rfl rfl, ?_⟩; ((conv => whnf); repeat ((first | refine CodeS.step ?_ | refine RegS.step ?_ | refine RegXS.step ?_); (conv => whnf)))
  refine ⟨_, rfl, fun _ => ?_, (fun hx => nomatch (hx.symm.trans z2))⟩; ((conv => whnf); repeat ((first | refine CodeS.step ?_ | refine RegS.step ?_ | refine RegXS.step ?_); (conv => whnf)))
  refine ⟨_, loadAggK rfl e5 rfl rfl (Nat.le_of_ble_eq_true rfl) rfl, ?_⟩; ((conv => whnf); repeat ((first | refine CodeS.step ?_ | refine RegS.step ?_ | refine RegXS.step ?_); (conv => whnf)))
  refine ⟨.inl (by kernel_rfl), ?_⟩; ((conv => whnf); repeat ((first | refine CodeS.step ?_ | refine RegS.step ?_ | refine RegXS.step ?_); (conv => whnf)))
  refine ⟨_, _, text_ok hc0 hd, ?_⟩; ((conv => whnf); repeat ((first | refine CodeS.step ?_ | refine RegS.step ?_ | refine RegXS.step ?_); (conv => whnf)))
  refine ⟨.inl (Ext.refl _), ?_⟩; ((conv => whnf); repeat ((first | refine CodeS.step ?_ | refine RegS.step ?_ | refine RegXS.step ?_); (conv => whnf)))
  refine ⟨_, strEqK rfl rfl rfl, ?_⟩; ((conv => whnf); repeat ((first | refine CodeS.step ?_ | refine RegS.step ?_ | refine RegXS.step ?_); (conv => whnf)))
  refine ⟨_, loadAggK rfl e4 rfl rfl (Nat.le_of_ble_eq_true rfl) rfl, ?_⟩; ((conv => whnf); repeat ((first | refine CodeS.step ?_ | refine RegS.step ?_ | refine RegXS.step ?_); (conv => whnf)))
  refine ⟨.inl (by kernel_rfl), ?_⟩; ((conv => whnf); repeat ((first | refine CodeS.step ?_ | refine RegS.step ?_ | refine RegXS.step ?_); (conv => whnf)))
  refine ⟨_, _, lclean_ok ha hb, ?_⟩; ((conv => whnf); repeat ((first | refine CodeS.step ?_ | refine RegS.step ?_ | refine RegXS.step ?_); (conv => whnf)))
  refine ⟨.inl (Ext.refl _), ?_⟩; ((conv => whnf); repeat ((first | refine CodeS.step ?_ | refine RegS.step ?_ | refine RegXS.step ?_); (conv => whnf)))
  refine ⟨_, loadAggK rfl e5 rfl rfl (Nat.le_of_ble_eq_true rfl) rfl, ?_⟩; ((conv => whnf); repeat ((first | refine CodeS.step ?_ | refine RegS.step ?_ | refine RegXS.step ?_); (conv => whnf)))
  refine ⟨.inl (by kernel_rfl), ?_⟩; ((conv => whnf); repeat ((first | refine CodeS.step ?_ | refine RegS.step ?_ | refine RegXS.step ?_); (conv => whnf)))
  refine ⟨_, _, lclean_ok hc0 hd, ?_⟩; ((conv => whnf); repeat ((first | refine CodeS.step ?_ | refine RegS.step ?_ | refine RegXS.step ?_); (conv => whnf)))
  refine ⟨.inl (Ext.refl _), ?_⟩; ((conv => whnf); repeat ((first | refine CodeS.step ?_ | refine RegS.step ?_ | refine RegXS.step ?_); (conv => whnf)))
  refine ⟨_, eqPair rfl rfl, ?_⟩; ((conv => whnf); repeat ((first | refine CodeS.step ?_ | refine RegS.step ?_ | refine RegXS.step ?_); (conv => whnf)))
  refine ⟨_, rfl, fun _ => ?_, (fun hx => nomatch (hx.symm.trans z3))⟩; ((conv => whnf); repeat ((first | refine CodeS.step ?_ | refine RegS.step ?_ | refine RegXS.step ?_); (conv => whnf)))
  refine ⟨_, _, lives2_ok (hv.ext E9), ?_⟩; ((conv => whnf); repeat ((first | refine CodeS.step ?_ | refine RegS.step ?_ | refine RegXS.step ?_); (conv => whnf)))
  refine ⟨.inl (Ext.refl _), ?_⟩; ((conv => whnf); repeat ((first | refine CodeS.step ?_ | refine RegS.step ?_ | refine RegXS.step ?_); (conv => whnf)))
  exact ⟨rfl, E9⟩

theorem pairsTexts_call (h : Heap) (x : DenL [(.str, false), (shPair, true), (shPair, true)]) (avs : List Value) (hv : Vars h) (r : RepL h [(.str, false), (shPair, true), (shPair, true)] x avs) : CallD Tryd.prog NG 5 ⟨avs⟩ h (.bool true) h := by
  obtain ⟨x, y, z, _⟩ := x
  obtain ⟨_, _, rfl, w1, ⟨cs, r1, r2⟩, _, _, rfl, w2, r3, _, _, rfl, w3, r4, rfl⟩ := r
  have r1 : cs = [.string x] := r1
  have r2 : cs = [_] := r2
  subst r1
  cases r2
  obtain ⟨rfl, h1, h2⟩ := rep_pair w2 r3
  obtain ⟨rfl, h3, h4⟩ := rep_pair w3 r4
  exact pairsTexts_run hv h1.1 h2.1 h3.1 h4.1
end Go.Proofs.YtbfgncmnallhlaaDoor
