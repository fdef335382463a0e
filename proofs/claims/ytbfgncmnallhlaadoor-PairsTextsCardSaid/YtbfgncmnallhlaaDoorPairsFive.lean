/-
  The law PairsFive: its walk.
-/
import Derived.Test.YtbfgncmnallhlaaDoorPairsMonotone
namespace Go.Proofs.YtbfgncmnallhlaaDoor
open Go.Abs
set_option maxRecDepth 100000

/-- The pairs that Five keeps. -/
def keptL (x y : Int) : Bool := eqP x y 1 0 || (eqP x y 0 1 || (x == y && x != 3))

theorem cases4 {x : Int} (h : 0 ≤ x ∧ x ≤ 3) : x = 0 ∨ x = 1 ∨ x = 2 ∨ x = 3 := by omega

theorem five_clean {a b : Int} (ha : 0 ≤ a) (hb : 0 ≤ b) : fiveL a b = if keptL (cleanL a) (cleanL b) = true then (cleanL a, cleanL b) else (2, 2) := by
  have h1 := cases4 (clean_range ha)
  have h2 := cases4 (clean_range hb)
  unfold fiveL
  generalize cleanL a = x at h1 ⊢
  generalize cleanL b = y at h2 ⊢
  rcases h1 with rfl | rfl | rfl | rfl <;> rcases h2 with rfl | rfl | rfl | rfl <;> rfl
theorem five_idem {a b : Int} (ha : 0 ≤ a) (hb : 0 ≤ b) : fiveL (fiveL a b).1 (fiveL a b).2 = fiveL a b := by
  have h1 := cases4 (clean_range ha)
  have h2 := cases4 (clean_range hb)
  unfold fiveL
  generalize cleanL a = x at h1 ⊢
  generalize cleanL b = y at h2 ⊢
  rcases h1 with rfl | rfl | rfl | rfl <;> rcases h2 with rfl | rfl | rfl | rfl <;> rfl
theorem five_below {a b : Int} (ha : 0 ≤ a) (hb : 0 ≤ b) : PBelow (fiveL a b) (cleanL a, cleanL b) := by
  rw [five_clean ha hb]
  split
  · exact ⟨.refl _, .refl _⟩
  · exact ⟨two_bot _, two_bot _⟩
theorem clean_below (a : Int) : Below (cleanL a) a := .inl (clean_idem a)
theorem five_below' {a b : Int} (ha : 0 ≤ a) (hb : 0 ≤ b) : PBelow (fiveL a b) (a, b) := ⟨(five_below ha hb).1.trans (clean_below a), (five_below ha hb).2.trans (clean_below b)⟩
theorem five_nonneg {a b : Int} (ha : 0 ≤ a) (hb : 0 ≤ b) : 0 ≤ (fiveL a b).1 ∧ 0 ≤ (fiveL a b).2 := by
  rw [five_clean ha hb]
  split
  · exact ⟨cleanL_nonneg ha, cleanL_nonneg hb⟩
  · exact ⟨by decide, by decide⟩

def fives (l : List (Int × Int)) (i : Nat) : List (Int × Int) := (l.map fun q => fiveL q.1 q.2).take i
theorem fives_next {l : List (Int × Int)} {i : Nat} (h1 : i < l.length) : prs (fives l i) ++ [pr (fiveL l[i].1 l[i].2).1 (fiveL l[i].1 l[i].2).2] = prs (fives l (i + 1)) := by
  unfold fives
  rw [List.take_succ_eq_append_getElem (by simp; omega)]
  simp [prs]
theorem fives_len {l : List (Int × Int)} {i : Nat} (h1 : i ≤ l.length) : (prs (fives l i)).length = i := by simp [prs, fives]; omega

theorem pairsFive_run {h : Heap} (hv : Vars h) {k : Int} (hk : 0 ≤ k) (hk2 : k < 256) {a : Option Addr} {n cap : Nat} {l : List (Int × Int)} (hs : Sl h 2 (.slice a n cap) (prs l)) (hl : ∀ q ∈ l, 0 ≤ q.1 ∧ 0 ≤ q.2) :
    CallD Tryd.prog NG 6 #[u8 k, .slice a n cap] h (.bool true) h := by
  obtain rfl := prs_len hs
  refine fnP hM Tryd.func6 rfl (hP _ _ rfl Tryd.func6) (Nat.le_of_ble_eq_true rfl) (by kernel_rfl) ?_; ((conv => whnf); repeat ((first | refine CodeS.step ?_ | refine RegS.step ?_ | refine RegXS.step ?_); (conv => whnf)))
  refine ⟨_, rfl, fun hc => ?_, fun hc => ?_⟩
  · ((conv => whnf); repeat ((first | refine CodeS.step ?_ | refine RegS.step ?_ | refine RegXS.step ?_); (conv => whnf)))
    refine ⟨_, _, lives2_ok hv, ?_⟩; ((conv => whnf); repeat ((first | refine CodeS.step ?_ | refine RegS.step ?_ | refine RegXS.step ?_); (conv => whnf)))
    exact ⟨rfl, Ext.refl _⟩
  have hn : l.length ≤ 16 := ge_of_ltI (a := 16) hc
  clear hc
  ((conv => whnf); repeat ((first | refine CodeS.step ?_ | refine RegS.step ?_ | refine RegXS.step ?_); (conv => whnf)))
  refine loopG (σ := Nat × Option Nat) (nn := 92) hM (by kernel_rfl)
    (fun (i, a5) h2 => i ≤ l.length ∧ Ext h h2 ∧ Grow h2 2 a5 (prs (fives l i)) ∧ ∀ g, a5 = some g → h.size ≤ g)
    (fun (i, a5) => [(0, u8 k), (1, .slice a l.length cap), (5, growV 2 a5 (prs (fives l i))), (6, .int .i64 (Int.ofNat i))]) (fun (i, _) => l.length - i) rfl
    ⟨(0, none), ⟨Nat.zero_le _, Ext.refl _, Grow.start _ _, by simp⟩, rfl, rfl, rfl, rfl, trivial⟩ ?_
  rintro ⟨i, a5⟩ base h2 ⟨hi, E, G5, F5⟩
  have L5 := fives_len hi
  ((conv => whnf); repeat ((first | refine CodeS.step ?_ | refine RegS.step ?_ | refine RegXS.step ?_); (conv => whnf)))
  refine ⟨_, rfl, fun hc => ?_, fun hc => ?_⟩
  · replace hc := lt_of_ltI hc
    have hi' := hc
    have hq := hl _ (List.getElem_mem hc)
    have X1 := E.1
    ((conv => whnf); repeat ((first | refine CodeS.step ?_ | refine RegS.step ?_ | refine RegXS.step ?_); (conv => whnf)))
    refine (hs.ext E).indexK rfl rfl rfl rfl (j := i) (prs_get hc) fun g off cs ro hg he => ?_; ((conv => whnf); repeat ((first | refine CodeS.step ?_ | refine RegS.step ?_ | refine RegXS.step ?_); (conv => whnf)))
    refine ⟨_, he.loadAllK hg rfl rfl rfl rfl, ?_⟩; ((conv => whnf); repeat ((first | refine CodeS.step ?_ | refine RegS.step ?_ | refine RegXS.step ?_); (conv => whnf)))
    refine ⟨_, _, lclean_ok hq.1 hq.2, ?_⟩; ((conv => whnf); repeat ((first | refine CodeS.step ?_ | refine RegS.step ?_ | refine RegXS.step ?_); (conv => whnf)))
    refine ⟨_, _, allocPair, fun h3 n3 => ?_⟩; ((conv => whnf); repeat ((first | refine CodeS.step ?_ | refine RegS.step ?_ | refine RegXS.step ?_); (conv => whnf)))
    refine storeK rfl n3.get rfl rfl rfl (Nat.le_of_ble_eq_true rfl) rfl fun h4 u4 => ?_; ((conv => whnf); repeat ((first | refine CodeS.step ?_ | refine RegS.step ?_ | refine RegXS.step ?_); (conv => whnf)))
    have S3 := n3.size
    have E4 : Ext h h4 := u4.ext (n3.exts E) X1
    have e7 : h4.get h2.size = some (.cells [.int .u8 (cleanL l[i].1), .int .u8 (cleanL l[i].2)] false) := u4.get
    have B5 : ∀ x, a5 = some x → x < h2.size := fun x ex => Heap.lt_of_get (G5.get x ex)
    have G4 : Grow h4 2 a5 (prs (fives l i)) := (G5.ext n3.ext).keep fun x ex _ => u4.other x (by have := B5 x ex; omega)
    refine (hs.ext E4).indexK rfl rfl rfl rfl (j := i) (prs_get hc) fun g off cs ro hg he => ?_; ((conv => whnf); repeat ((first | refine CodeS.step ?_ | refine RegS.step ?_ | refine RegXS.step ?_); (conv => whnf)))
    refine ⟨_, he.loadAllK hg rfl rfl rfl rfl, ?_⟩; ((conv => whnf); repeat ((first | refine CodeS.step ?_ | refine RegS.step ?_ | refine RegXS.step ?_); (conv => whnf)))
    refine ⟨_, _, five_ok hq.1 hq.2, ?_⟩; ((conv => whnf); repeat ((first | refine CodeS.step ?_ | refine RegS.step ?_ | refine RegXS.step ?_); (conv => whnf)))
    refine ⟨_, _, allocPair, fun h5 n5 => ?_⟩; ((conv => whnf); repeat ((first | refine CodeS.step ?_ | refine RegS.step ?_ | refine RegXS.step ?_); (conv => whnf)))
    refine storeK rfl n5.get rfl rfl rfl (Nat.le_of_ble_eq_true rfl) rfl fun h6 u6 => ?_; ((conv => whnf); repeat ((first | refine RegS.step ?_ | refine RegXS.step ?_); (conv => whnf)))
    have S4 := u4.size
    have S5 := n5.size
    have E6 : Ext h h6 := u6.ext (n5.exts E4) (by omega)
    have e8 : h6.get h4.size = some (.cells [.int .u8 (fiveL l[i].1 l[i].2).1, .int .u8 (fiveL l[i].1 l[i].2).2] false) := u6.get
    have e7' : h6.get h2.size = some (.cells [.int .u8 (cleanL l[i].1), .int .u8 (cleanL l[i].2)] false) := u6.keep (by omega) (n5.keep e7)
    have G6 : Grow h6 2 a5 (prs (fives l i)) := (G4.ext n5.ext).keep fun x ex _ => u6.other x (by have := B5 x ex; omega)
    refine CodeS.join (nn := 92) (fun h' => h' = h6)
      [(0, u8 k), (1, .slice a l.length cap), (5, growV 2 a5 (prs (fives l i))), (6, .int .i64 (Int.ofNat i)), (7, .pointer (some ⟨h2.size, 0, none⟩)), (8, .pointer (some ⟨h4.size, 0, none⟩)), (9, .bool (keptL (cleanL l[i].1) (cleanL l[i].2)))] rfl ?_ ?_
    · ((conv => whnf); repeat ((first | refine CodeS.step ?_ | refine RegS.step ?_ | refine RegXS.step ?_); (conv => whnf)))
      refine ⟨_, loadAggK rfl e7' rfl rfl (Nat.le_of_ble_eq_true rfl) rfl, ?_⟩; ((conv => whnf); repeat ((first | refine CodeS.step ?_ | refine RegS.step ?_ | refine RegXS.step ?_); (conv => whnf)))
      refine ⟨.inl (by kernel_rfl), ?_⟩; ((conv => whnf); repeat ((first | refine CodeS.step ?_ | refine RegS.step ?_ | refine RegXS.step ?_); (conv => whnf)))
      refine ⟨_, _, D_ok, ?_⟩; ((conv => whnf); repeat ((first | refine CodeS.step ?_ | refine RegS.step ?_ | refine RegXS.step ?_); (conv => whnf)))
      refine ⟨.inl (Ext.refl _), ?_⟩; ((conv => whnf); repeat ((first | refine CodeS.step ?_ | refine RegS.step ?_ | refine RegXS.step ?_); (conv => whnf)))
      refine ⟨_, eqPair rfl rfl, ?_⟩; ((conv => whnf); repeat ((first | refine CodeS.step ?_ | refine RegS.step ?_ | refine RegXS.step ?_); (conv => whnf)))
      refine ⟨_, rfl, fun hc => ?_, fun hc => ?_⟩
      · ((conv => whnf); repeat ((first | refine CodeS.step ?_ | refine RegS.step ?_ | refine RegXS.step ?_); (conv => whnf)))
        refine ⟨true, rfl, fun _ => ?_, (fun hc => nomatch hc)⟩; ((conv => whnf); repeat ((first | refine CodeS.step ?_ | refine RegS.step ?_ | refine RegXS.step ?_); (conv => whnf)))
        exact ⟨rfl, rfl, rfl, rfl, rfl, rfl, rfl, congrArg Value.bool (by unfold keptL eqP; rw [hc]; rfl), trivial⟩
      · ((conv => whnf); repeat ((first | refine CodeS.step ?_ | refine RegS.step ?_ | refine RegXS.step ?_); (conv => whnf)))
        have h10 : eqP (cleanL l[i].1) (cleanL l[i].2) 1 0 = false := hc
        refine ⟨_, loadAggK rfl e7' rfl rfl (Nat.le_of_ble_eq_true rfl) rfl, ?_⟩; ((conv => whnf); repeat ((first | refine CodeS.step ?_ | refine RegS.step ?_ | refine RegXS.step ?_); (conv => whnf)))
        refine ⟨.inl (by kernel_rfl), ?_⟩; ((conv => whnf); repeat ((first | refine CodeS.step ?_ | refine RegS.step ?_ | refine RegXS.step ?_); (conv => whnf)))
        refine ⟨_, _, B_ok, ?_⟩; ((conv => whnf); repeat ((first | refine CodeS.step ?_ | refine RegS.step ?_ | refine RegXS.step ?_); (conv => whnf)))
        refine ⟨.inl (Ext.refl _), ?_⟩; ((conv => whnf); repeat ((first | refine CodeS.step ?_ | refine RegS.step ?_ | refine RegXS.step ?_); (conv => whnf)))
        refine ⟨_, eqPair rfl rfl, ?_⟩; ((conv => whnf); repeat ((first | refine CodeS.step ?_ | refine RegS.step ?_ | refine RegXS.step ?_); (conv => whnf)))
        refine ⟨_, rfl, fun hc => ?_, fun hc => ?_⟩
        · ((conv => whnf); repeat ((first | refine CodeS.step ?_ | refine RegS.step ?_ | refine RegXS.step ?_); (conv => whnf)))
          have h01 : eqP (cleanL l[i].1) (cleanL l[i].2) 0 1 = true := hc
          exact ⟨rfl, rfl, rfl, rfl, rfl, rfl, rfl, congrArg Value.bool (by unfold keptL; rw [h10, h01]; rfl), trivial⟩
        · ((conv => whnf); repeat ((first | refine CodeS.step ?_ | refine RegS.step ?_ | refine RegXS.step ?_); (conv => whnf)))
          have h01 : eqP (cleanL l[i].1) (cleanL l[i].2) 0 1 = false := hc
          refine ⟨_, loadK rfl e7' rfl rfl, ?_⟩; ((conv => whnf); repeat ((first | refine CodeS.step ?_ | refine RegS.step ?_ | refine RegXS.step ?_); (conv => whnf)))
          refine ⟨.inl rfl, ?_⟩; ((conv => whnf); repeat ((first | refine CodeS.step ?_ | refine RegS.step ?_ | refine RegXS.step ?_); (conv => whnf)))
          refine ⟨_, loadK rfl e7' rfl rfl, ?_⟩; ((conv => whnf); repeat ((first | refine CodeS.step ?_ | refine RegS.step ?_ | refine RegXS.step ?_); (conv => whnf)))
          refine ⟨.inl rfl, ?_⟩; ((conv => whnf); repeat ((first | refine CodeS.step ?_ | refine RegS.step ?_ | refine RegXS.step ?_); (conv => whnf)))
          refine ⟨_, rfl, fun hc => ?_, fun hc => ?_⟩
          · ((conv => whnf); repeat ((first | refine CodeS.step ?_ | refine RegS.step ?_ | refine RegXS.step ?_); (conv => whnf)))
            have hxy := hc
            refine ⟨_, loadK rfl e7' rfl rfl, ?_⟩; ((conv => whnf); repeat ((first | refine CodeS.step ?_ | refine RegS.step ?_ | refine RegXS.step ?_); (conv => whnf)))
            refine ⟨.inl rfl, ?_⟩; ((conv => whnf); repeat ((first | refine CodeS.step ?_ | refine RegS.step ?_ | refine RegXS.step ?_); (conv => whnf)))
            exact ⟨rfl, rfl, rfl, rfl, rfl, rfl, rfl, congrArg Value.bool (by unfold keptL; rw [h10, h01, hxy]; rfl), trivial⟩
          · ((conv => whnf); repeat ((first | refine CodeS.step ?_ | refine RegS.step ?_ | refine RegXS.step ?_); (conv => whnf)))
            exact ⟨rfl, rfl, rfl, rfl, rfl, rfl, rfl, congrArg Value.bool (by unfold keptL; rw [h10, h01, hc]; rfl), trivial⟩
    rintro base h7 rfl
    (conv => whnf)
    refine CodeS.join (nn := 92) (fun h' => h' = h7)
      [(0, u8 k), (1, .slice a l.length cap), (5, growV 2 a5 (prs (fives l i))), (6, .int .i64 (Int.ofNat i)), (8, .pointer (some ⟨h4.size, 0, none⟩))] rfl ?_ ?_
    · have nn := five_nonneg hq.1 hq.2
      have hfc := five_clean hq.1 hq.2
      have z3 : (!((fiveL (fiveL l[i].1 l[i].2).1 (fiveL l[i].1 l[i].2).2).1 == (fiveL l[i].1 l[i].2).1 && (fiveL (fiveL l[i].1 l[i].2).1 (fiveL l[i].1 l[i].2).2).2 == (fiveL l[i].1 l[i].2).2)) = false := by
        rw [five_idem hq.1 hq.2]; simp
      have z4 : (!pbelowL (fiveL l[i].1 l[i].2).1 (fiveL l[i].1 l[i].2).2 (cleanL l[i].1) (cleanL l[i].2)) = false := by
        have z : pbelowL (fiveL l[i].1 l[i].2).1 (fiveL l[i].1 l[i].2).2 (cleanL l[i].1) (cleanL l[i].2) = true := pbelow_iff.2 (five_below hq.1 hq.2)
        rw [z]; rfl
      ((conv => whnf); repeat ((first | refine CodeS.step ?_ | refine RegS.step ?_ | refine RegXS.step ?_); (conv => whnf)))
      refine ⟨_, rfl, fun hc => ?_, fun hc => ?_⟩
      · have hK := hc
        have z1 : (!((fiveL l[i].1 l[i].2).1 == cleanL l[i].1 && (fiveL l[i].1 l[i].2).2 == cleanL l[i].2)) = false := by rw [hfc, if_pos hK]; simp
        have z2 : (!keptL (cleanL l[i].1) (cleanL l[i].2)) = false := by rw [hK]; rfl
        ((conv => whnf); repeat ((first | refine CodeS.step ?_ | refine RegS.step ?_ | refine RegXS.step ?_); (conv => whnf)))
        refine ⟨_, loadAggK rfl e8 rfl rfl (Nat.le_of_ble_eq_true rfl) rfl, ?_⟩; ((conv => whnf); repeat ((first | refine CodeS.step ?_ | refine RegS.step ?_ | refine RegXS.step ?_); (conv => whnf)))
        refine ⟨.inl (by kernel_rfl), ?_⟩; ((conv => whnf); repeat ((first | refine CodeS.step ?_ | refine RegS.step ?_ | refine RegXS.step ?_); (conv => whnf)))
        refine ⟨_, loadAggK rfl e7' rfl rfl (Nat.le_of_ble_eq_true rfl) rfl, ?_⟩; ((conv => whnf); repeat ((first | refine CodeS.step ?_ | refine RegS.step ?_ | refine RegXS.step ?_); (conv => whnf)))
        refine ⟨.inl (by kernel_rfl), ?_⟩; ((conv => whnf); repeat ((first | refine CodeS.step ?_ | refine RegS.step ?_ | refine RegXS.step ?_); (conv => whnf)))
        refine ⟨_, nePair rfl rfl, ?_⟩; ((conv => whnf); repeat ((first | refine CodeS.step ?_ | refine RegS.step ?_ | refine RegXS.step ?_); (conv => whnf)))
        refine ⟨_, rfl, (fun hx => nomatch (hx.symm.trans z1)), fun _ => ?_⟩; ((conv => whnf); repeat ((first | refine CodeS.step ?_ | refine RegS.step ?_ | refine RegXS.step ?_); (conv => whnf)))
        refine ⟨_, rfl, (fun hx => nomatch (hx.symm.trans z2)), fun _ => ?_⟩; ((conv => whnf); repeat ((first | refine CodeS.step ?_ | refine RegS.step ?_ | refine RegXS.step ?_); (conv => whnf)))
        refine ⟨false, rfl, (fun hc => nomatch hc), fun _ => ?_⟩; ((conv => whnf); repeat ((first | refine CodeS.step ?_ | refine RegS.step ?_ | refine RegXS.step ?_); (conv => whnf)))
        refine ⟨_, loadAggK rfl e8 rfl rfl (Nat.le_of_ble_eq_true rfl) rfl, ?_⟩; ((conv => whnf); repeat ((first | refine CodeS.step ?_ | refine RegS.step ?_ | refine RegXS.step ?_); (conv => whnf)))
        refine ⟨.inl (by kernel_rfl), ?_⟩; ((conv => whnf); repeat ((first | refine CodeS.step ?_ | refine RegS.step ?_ | refine RegXS.step ?_); (conv => whnf)))
        refine ⟨_, _, five_ok nn.1 nn.2, ?_⟩; ((conv => whnf); repeat ((first | refine CodeS.step ?_ | refine RegS.step ?_ | refine RegXS.step ?_); (conv => whnf)))
        refine ⟨.inl (Ext.refl _), ?_⟩; ((conv => whnf); repeat ((first | refine CodeS.step ?_ | refine RegS.step ?_ | refine RegXS.step ?_); (conv => whnf)))
        refine ⟨_, loadAggK rfl e8 rfl rfl (Nat.le_of_ble_eq_true rfl) rfl, ?_⟩; ((conv => whnf); repeat ((first | refine CodeS.step ?_ | refine RegS.step ?_ | refine RegXS.step ?_); (conv => whnf)))
        refine ⟨.inl (by kernel_rfl), ?_⟩; ((conv => whnf); repeat ((first | refine CodeS.step ?_ | refine RegS.step ?_ | refine RegXS.step ?_); (conv => whnf)))
        refine ⟨_, nePair rfl rfl, ?_⟩; ((conv => whnf); repeat ((first | refine CodeS.step ?_ | refine RegS.step ?_ | refine RegXS.step ?_); (conv => whnf)))
        refine ⟨_, rfl, (fun hx => nomatch (hx.symm.trans z3)), fun _ => ?_⟩; ((conv => whnf); repeat ((first | refine CodeS.step ?_ | refine RegS.step ?_ | refine RegXS.step ?_); (conv => whnf)))
        refine ⟨_, loadAggK rfl e8 rfl rfl (Nat.le_of_ble_eq_true rfl) rfl, ?_⟩; ((conv => whnf); repeat ((first | refine CodeS.step ?_ | refine RegS.step ?_ | refine RegXS.step ?_); (conv => whnf)))
        refine ⟨.inl (by kernel_rfl), ?_⟩; ((conv => whnf); repeat ((first | refine CodeS.step ?_ | refine RegS.step ?_ | refine RegXS.step ?_); (conv => whnf)))
        refine ⟨_, loadAggK rfl e7' rfl rfl (Nat.le_of_ble_eq_true rfl) rfl, ?_⟩; ((conv => whnf); repeat ((first | refine CodeS.step ?_ | refine RegS.step ?_ | refine RegXS.step ?_); (conv => whnf)))
        refine ⟨.inl (by kernel_rfl), ?_⟩; ((conv => whnf); repeat ((first | refine CodeS.step ?_ | refine RegS.step ?_ | refine RegXS.step ?_); (conv => whnf)))
        refine ⟨_, _, pbelow_ok nn.1 nn.2 (cleanL_nonneg hq.1) (cleanL_nonneg hq.2), ?_⟩; ((conv => whnf); repeat ((first | refine CodeS.step ?_ | refine RegS.step ?_ | refine RegXS.step ?_); (conv => whnf)))
        refine ⟨.inl (Ext.refl _), ?_⟩; ((conv => whnf); repeat ((first | refine CodeS.step ?_ | refine RegS.step ?_ | refine RegXS.step ?_); (conv => whnf)))
        refine ⟨_, rfl, (fun hx => nomatch (hx.symm.trans z4)), fun _ => ?_⟩; ((conv => whnf); repeat ((first | refine CodeS.step ?_ | refine RegS.step ?_ | refine RegXS.step ?_); (conv => whnf)))
        exact ⟨rfl, rfl, rfl, rfl, rfl, rfl, trivial⟩
      · have hK := hc
        have y1 : (!((fiveL l[i].1 l[i].2).1 == cleanL 2 && (fiveL l[i].1 l[i].2).2 == cleanL 2)) = false := by rw [hfc, if_neg (by rw [hK]; simp)]; rfl
        have y2 : (!keptL (cleanL l[i].1) (cleanL l[i].2)) = true := by rw [hK]; rfl
        ((conv => whnf); repeat ((first | refine CodeS.step ?_ | refine RegS.step ?_ | refine RegXS.step ?_); (conv => whnf)))
        refine ⟨false, rfl, (fun hc => nomatch hc), fun _ => ?_⟩; ((conv => whnf); repeat ((first | refine CodeS.step ?_ | refine RegS.step ?_ | refine RegXS.step ?_); (conv => whnf)))
        refine ⟨_, rfl, fun _ => ?_, (fun hx => nomatch (hx.symm.trans y2))⟩; ((conv => whnf); repeat ((first | refine CodeS.step ?_ | refine RegS.step ?_ | refine RegXS.step ?_); (conv => whnf)))
        refine ⟨_, loadAggK rfl e8 rfl rfl (Nat.le_of_ble_eq_true rfl) rfl, ?_⟩; ((conv => whnf); repeat ((first | refine CodeS.step ?_ | refine RegS.step ?_ | refine RegXS.step ?_); (conv => whnf)))
        refine ⟨.inl (by kernel_rfl), ?_⟩; ((conv => whnf); repeat ((first | refine CodeS.step ?_ | refine RegS.step ?_ | refine RegXS.step ?_); (conv => whnf)))
        refine ⟨_, _, of_ok (a := 2) (by decide), ?_⟩; ((conv => whnf); repeat ((first | refine CodeS.step ?_ | refine RegS.step ?_ | refine RegXS.step ?_); (conv => whnf)))
        refine ⟨.inl (Ext.refl _), ?_⟩; ((conv => whnf); repeat ((first | refine CodeS.step ?_ | refine RegS.step ?_ | refine RegXS.step ?_); (conv => whnf)))
        refine ⟨_, nePair rfl rfl, ?_⟩; ((conv => whnf); repeat ((first | refine CodeS.step ?_ | refine RegS.step ?_ | refine RegXS.step ?_); (conv => whnf)))
        refine ⟨_, rfl, (fun hx => nomatch (hx.symm.trans y1)), fun _ => ?_⟩; ((conv => whnf); repeat ((first | refine CodeS.step ?_ | refine RegS.step ?_ | refine RegXS.step ?_); (conv => whnf)))
        refine ⟨_, loadAggK rfl e8 rfl rfl (Nat.le_of_ble_eq_true rfl) rfl, ?_⟩; ((conv => whnf); repeat ((first | refine CodeS.step ?_ | refine RegS.step ?_ | refine RegXS.step ?_); (conv => whnf)))
        refine ⟨.inl (by kernel_rfl), ?_⟩; ((conv => whnf); repeat ((first | refine CodeS.step ?_ | refine RegS.step ?_ | refine RegXS.step ?_); (conv => whnf)))
        refine ⟨_, _, five_ok nn.1 nn.2, ?_⟩; ((conv => whnf); repeat ((first | refine CodeS.step ?_ | refine RegS.step ?_ | refine RegXS.step ?_); (conv => whnf)))
        refine ⟨.inl (Ext.refl _), ?_⟩; ((conv => whnf); repeat ((first | refine CodeS.step ?_ | refine RegS.step ?_ | refine RegXS.step ?_); (conv => whnf)))
        refine ⟨_, loadAggK rfl e8 rfl rfl (Nat.le_of_ble_eq_true rfl) rfl, ?_⟩; ((conv => whnf); repeat ((first | refine CodeS.step ?_ | refine RegS.step ?_ | refine RegXS.step ?_); (conv => whnf)))
        refine ⟨.inl (by kernel_rfl), ?_⟩; ((conv => whnf); repeat ((first | refine CodeS.step ?_ | refine RegS.step ?_ | refine RegXS.step ?_); (conv => whnf)))
        refine ⟨_, nePair rfl rfl, ?_⟩; ((conv => whnf); repeat ((first | refine CodeS.step ?_ | refine RegS.step ?_ | refine RegXS.step ?_); (conv => whnf)))
        refine ⟨_, rfl, (fun hx => nomatch (hx.symm.trans z3)), fun _ => ?_⟩; ((conv => whnf); repeat ((first | refine CodeS.step ?_ | refine RegS.step ?_ | refine RegXS.step ?_); (conv => whnf)))
        refine ⟨_, loadAggK rfl e8 rfl rfl (Nat.le_of_ble_eq_true rfl) rfl, ?_⟩; ((conv => whnf); repeat ((first | refine CodeS.step ?_ | refine RegS.step ?_ | refine RegXS.step ?_); (conv => whnf)))
        refine ⟨.inl (by kernel_rfl), ?_⟩; ((conv => whnf); repeat ((first | refine CodeS.step ?_ | refine RegS.step ?_ | refine RegXS.step ?_); (conv => whnf)))
        refine ⟨_, loadAggK rfl e7' rfl rfl (Nat.le_of_ble_eq_true rfl) rfl, ?_⟩; ((conv => whnf); repeat ((first | refine CodeS.step ?_ | refine RegS.step ?_ | refine RegXS.step ?_); (conv => whnf)))
        refine ⟨.inl (by kernel_rfl), ?_⟩; ((conv => whnf); repeat ((first | refine CodeS.step ?_ | refine RegS.step ?_ | refine RegXS.step ?_); (conv => whnf)))
        refine ⟨_, _, pbelow_ok nn.1 nn.2 (cleanL_nonneg hq.1) (cleanL_nonneg hq.2), ?_⟩; ((conv => whnf); repeat ((first | refine CodeS.step ?_ | refine RegS.step ?_ | refine RegXS.step ?_); (conv => whnf)))
        refine ⟨.inl (Ext.refl _), ?_⟩; ((conv => whnf); repeat ((first | refine CodeS.step ?_ | refine RegS.step ?_ | refine RegXS.step ?_); (conv => whnf)))
        refine ⟨_, rfl, (fun hx => nomatch (hx.symm.trans z4)), fun _ => ?_⟩; ((conv => whnf); repeat ((first | refine CodeS.step ?_ | refine RegS.step ?_ | refine RegXS.step ?_); (conv => whnf)))
        exact ⟨rfl, rfl, rfl, rfl, rfl, rfl, trivial⟩
    rintro base h8 rfl
    ((conv => whnf); repeat ((first | refine CodeS.step ?_ | refine RegS.step ?_ | refine RegXS.step ?_); (conv => whnf)))
    refine ⟨_, loadAggK rfl e8 rfl rfl (Nat.le_of_ble_eq_true rfl) rfl, ?_⟩; ((conv => whnf); repeat ((first | refine CodeS.step ?_ | refine RegS.step ?_ | refine RegXS.step ?_); (conv => whnf)))
    refine ⟨_, _, buildK (vs := [pr (fiveL l[i].1 l[i].2).1 (fiveL l[i].1 l[i].2).2]) (s := 2) rfl rfl zeroPair plainsPair rfl rfl rfl rfl (one_mem rfl), fun h9 n9 => ?_⟩; ((conv => whnf); repeat ((first | refine CodeS.step ?_ | refine RegS.step ?_ | refine RegXS.step ?_); (conv => whnf)))
    refine growK (b := 2) (new := [pr (fiveL l[i].1 l[i].2).1 (fiveL l[i].1 l[i].2).2]) (G6.ext n9.ext) rfl rfl rfl rfl rfl zeroPair rfl rfl rfl n9.get rfl (by omega) (one_mem rfl) rfl (by omega) (by omega) fun h10 g10 Q10 => ?_; ((conv => whnf); repeat ((first | refine CodeS.step ?_ | refine RegS.step ?_ | refine RegXS.step ?_); (conv => whnf)))
    refine ⟨_, addK (b := 1) rfl rfl (by omega), ?_⟩; ((conv => whnf); repeat ((first | refine CodeS.step ?_ | refine RegS.step ?_ | refine RegXS.step ?_); (conv => whnf)))
    have G10 := Q10.grow
    have C10 := Q10.fresh
    have S9 := n9.size
    have X8 := E6.1
    rw [fives_next hi'] at G10
    exact ⟨(i + 1, some g10), by simp only; omega, ⟨hi', Q10.ext (n9.exts E6) F5, G10, fun x e => by cases e; omega⟩, rfl, rfl, growV_congr (fives_next hi'), rfl, trivial⟩
  · replace hc := ge_of_ltI hc
    obtain rfl : i = l.length := by omega
    have T5 : fives l l.length = l.map fun q => fiveL q.1 q.2 := by unfold fives; exact List.take_of_length_le (by simp)
    have G5s : Sl h2 2 (growV 2 a5 (prs (fives l l.length))) (prs (fives l l.length)) := G5.sl
    have mem : ∀ q ∈ fives l l.length, 0 ≤ q.1 ∧ 0 ≤ q.2 := by
      intro q hq
      rw [T5, List.mem_map] at hq
      obtain ⟨x, hx, rfl⟩ := hq
      exact five_nonneg (hl x hx).1 (hl x hx).2
    have all : All2 PBelow (fives l l.length) l := by
      rw [T5]
      refine All2.of_get (by simp) fun j x y hx hy => ?_
      rw [List.getElem?_map, hy] at hx
      cases hx
      have := hl y (List.mem_of_getElem? hy)
      exact five_below' this.1 this.2
    have hlen : (fives l l.length).length < 2 ^ 40 := by rw [T5]; simp; omega
    have nn1 := pevalL_nonneg k hl
    have nn2 := pevalL_nonneg k mem
    have fin := peval_mono k all mem
    have f5 := five_below' nn2.1 nn2.2
    have nn3 := five_nonneg nn2.1 nn2.2
    have fin' : pbelowL (fiveL (pevalL k (fives l l.length)).1 (pevalL k (fives l l.length)).2).1 (fiveL (pevalL k (fives l l.length)).1 (pevalL k (fives l l.length)).2).2 (pevalL k l).1 (pevalL k l).2 = true :=
      pbelow_iff.2 ⟨f5.1.trans fin.1, f5.2.trans fin.2⟩
    ((conv => whnf); repeat ((first | refine CodeS.step ?_ | refine RegS.step ?_ | refine RegXS.step ?_); (conv => whnf)))
    refine ⟨_, _, peval_ok hk hk2 (hv.ext E) G5s mem hlen, ?_⟩; ((conv => whnf); repeat ((first | refine CodeS.step ?_ | refine RegS.step ?_ | refine RegXS.step ?_); (conv => whnf)))
    refine ⟨_, _, five_ok nn2.1 nn2.2, ?_⟩; ((conv => whnf); repeat ((first | refine CodeS.step ?_ | refine RegS.step ?_ | refine RegXS.step ?_); (conv => whnf)))
    refine ⟨_, _, peval_ok hk hk2 (hv.ext E) (hs.ext E) hl (by omega), ?_⟩; ((conv => whnf); repeat ((first | refine CodeS.step ?_ | refine RegS.step ?_ | refine RegXS.step ?_); (conv => whnf)))
    refine ⟨_, _, pbelow_ok nn3.1 nn3.2 nn1.1 nn1.2, ?_⟩; ((conv => whnf); repeat ((first | refine CodeS.step ?_ | refine RegS.step ?_ | refine RegXS.step ?_); (conv => whnf)))
    refine ⟨_, rfl, fun _ => ?_, (fun hx => nomatch (hx.symm.trans fin'))⟩; ((conv => whnf); repeat ((first | refine CodeS.step ?_ | refine RegS.step ?_ | refine RegXS.step ?_); (conv => whnf)))
    refine ⟨_, _, lives2_ok (hv.ext E), ?_⟩; ((conv => whnf); repeat ((first | refine CodeS.step ?_ | refine RegS.step ?_ | refine RegXS.step ?_); (conv => whnf)))
    exact ⟨rfl, E⟩

theorem pairsFive_call (h : Heap) (x : DenL [(.int .u8, false), (.slice shPair, false)]) (avs : List Value) (hv : Vars h) (r : RepL h [(.int .u8, false), (.slice shPair, false)] x avs) : CallD Tryd.prog NG 6 ⟨avs⟩ h (.bool true) h := by
  obtain ⟨x, y, z⟩ := x
  obtain ⟨_, _, rfl, w1, r1, _, _, rfl, w2, r2, rfl⟩ := r
  obtain ⟨rfl, h1⟩ := rep_u8 w1 r1
  obtain ⟨s2, h2⟩ := rep_pairs w2 r2
  obtain ⟨a, cap, rfl⟩ := s2.shape
  exact pairsFive_run hv h1.1 h1.2 s2 (fun q hq => ⟨(h2 q hq).1.1, (h2 q hq).2.1⟩)
end Go.Proofs.YtbfgncmnallhlaaDoor
