/-
  The law PairsDiffer: its walk.
-/
import Derived.Test.YtbfgncmnallhlaaDoorPairsDiffer
namespace Go.Proofs.YtbfgncmnallhlaaDoor
open Go.Abs
set_option maxRecDepth 100000

theorem any_next {α : Type} {p : α → Bool} {l : List α} {i : Nat} (h : i < l.length) : (l.take (i + 1)).any p = ((l.take i).any p || p l[i]) := by
  rw [List.take_succ_eq_append_getElem h, List.any_append]; simp

theorem prs_set (l : List (Int × Int)) (j : Nat) (q : Int × Int) : prs (l.set j q) = (prs l).set j (pr q.1 q.2) := by
  unfold prs; rw [List.map_set]
theorem prs_replicate (n : Nat) (q : Int × Int) : prs (List.replicate n q) = List.replicate n (pr q.1 q.2) := by
  unfold prs; rw [List.map_replicate]

def filled (n i : Nat) (v z : Value) : List Value := List.replicate i v ++ List.replicate (n - i) z
theorem filled_next {n i : Nat} {v z : Value} (h : i < n) : (filled n i v z).set i v = filled n (i + 1) v z := by
  unfold filled
  rw [List.set_append_right _ _ (by simp), List.length_replicate, Nat.sub_self]
  obtain ⟨m, hm⟩ : ∃ m, n - i = m + 1 := ⟨n - i - 1, by omega⟩
  rw [hm, show n - (i + 1) = m by omega, List.replicate_succ, List.set_cons_zero, List.replicate_succ']
  simp
theorem filled_len {n i : Nat} {v z : Value} (h : i ≤ n) : (filled n i v z).length = n := by simp [filled]; omega
theorem filled_two {n i : Nat} {a b c d : Int} : ∀ e ∈ filled n i (pr a b) (pr c d), (cl e).length = 2 := by
  intro e he
  rcases List.mem_append.1 he with m | m
  · rw [(List.mem_replicate.1 m).2]; rfl
  · rw [(List.mem_replicate.1 m).2]; rfl

theorem sl_prs {h : Heap} {g n : Nat} {l : List (Int × Int)} {ro : Bool} (hg : h.get g = some (.cells (flatC (prs l)) ro)) (hn : n = l.length) : Sl h 2 (.slice (some ⟨g, 0, none⟩) n n) (prs l) := by
  subst hn
  exact Sl.of_flat hg (fun e he => prs_two e he) (by simp [prs]) (by simp [prs]) (r := []) (by simp)

theorem control_cases {k : Int} (h : controlB k = true) : (k = 5 ∨ k = 6 ∨ k = 7 ∨ k = 8) ∧ (controlL k = 0 ∨ controlL k = 1) := by
  unfold controlB at h
  have h := of_decide_eq_true h
  refine ⟨h, ?_⟩
  rcases h with rfl | rfl | rfl | rfl
  · exact .inl rfl
  · exact .inl rfl
  · exact .inr rfl
  · exact .inr rfl

theorem pairsDiffer_run {h : Heap} (hv : Vars h) {k : Int} (hk : 0 ≤ k) (hk2 : k < 256) {a : Option Addr} {n cap : Nat} {l : List (Int × Int)} (hs : Sl h 2 (.slice a n cap) (prs l)) (hl : ∀ q ∈ l, 0 ≤ q.1 ∧ 0 ≤ q.2) {x : Int} (hx0 : 0 ≤ x) (hx2 : x < 256) :
    CallD Tryd.prog NG 10 #[u8 k, .slice a n cap, u8 x] h (.bool true) h := by
  obtain rfl := prs_len hs
  obtain ⟨x, rfl⟩ := Int.eq_ofNat_of_zero_le hx0
  refine fnP hM Tryd.func10 rfl (hP _ _ rfl Tryd.func10) (Nat.le_of_ble_eq_true rfl) (by kernel_rfl) ?_; ((conv => whnf); repeat ((first | refine CodeS.step ?_ | refine RegS.step ?_ | refine RegXS.step ?_); (conv => whnf)))
  refine ⟨_, rfl, fun hc => ?_, fun hc => ?_⟩
  · ((conv => whnf); repeat ((first | refine CodeS.step ?_ | refine RegS.step ?_ | refine RegXS.step ?_); (conv => whnf)))
    refine ⟨true, rfl, fun _ => ?_, (fun hc => nomatch hc)⟩; ((conv => whnf); repeat ((first | refine CodeS.step ?_ | refine RegS.step ?_ | refine RegXS.step ?_); (conv => whnf)))
    refine ⟨_, _, lives2_ok hv, ?_⟩; ((conv => whnf); repeat ((first | refine CodeS.step ?_ | refine RegS.step ?_ | refine RegXS.step ?_); (conv => whnf)))
    exact ⟨rfl, Ext.refl _⟩
  have hn : l.length ≤ 16 := ge_of_ltI (a := 16) hc
  clear hc
  ((conv => whnf); repeat ((first | refine CodeS.step ?_ | refine RegS.step ?_ | refine RegXS.step ?_); (conv => whnf)))
  refine ⟨_, rfl, fun hc => ?_, fun hc => ?_⟩
  · ((conv => whnf); repeat ((first | refine CodeS.step ?_ | refine RegS.step ?_ | refine RegXS.step ?_); (conv => whnf)))
    refine ⟨_, _, lives2_ok hv, ?_⟩; ((conv => whnf); repeat ((first | refine CodeS.step ?_ | refine RegS.step ?_ | refine RegXS.step ?_); (conv => whnf)))
    exact ⟨rfl, Ext.refl _⟩
  have hn2 : 2 ≤ l.length := ge_of_ltI (b := 2) hc
  clear hc
  ((conv => whnf); repeat ((first | refine CodeS.step ?_ | refine RegS.step ?_ | refine RegXS.step ?_); (conv => whnf)))
  refine loopG (σ := Nat) (nn := 139) hM (by kernel_rfl) (fun i h2 => h2 = h ∧ i ≤ l.length)
    (fun i => [(0, u8 k), (1, .slice a l.length cap), (2, u8 (Int.ofNat x)), (7, .bool ((l.take i).any (someAt k))), (8, .int .i64 (Int.ofNat i))]) (fun i => l.length - i) rfl
    ⟨0, ⟨rfl, Nat.zero_le _⟩, rfl, rfl, rfl, rfl, rfl, trivial⟩ ?_
  rintro i base h2 ⟨rfl, hi⟩
  ((conv => whnf); repeat ((first | refine CodeS.step ?_ | refine RegS.step ?_ | refine RegXS.step ?_); (conv => whnf)))
  refine ⟨_, rfl, fun hc => ?_, fun hc => ?_⟩
  · replace hc := lt_of_ltI hc
    have hi' := hc
    have hq := hl _ (List.getElem_mem hc)
    ((conv => whnf); repeat ((first | refine CodeS.step ?_ | refine RegS.step ?_ | refine RegXS.step ?_); (conv => whnf)))
    refine ⟨_, rfl, fun hp => ?_, fun hp => ?_⟩
    · ((conv => whnf); repeat ((first | refine CodeS.step ?_ | refine RegS.step ?_ | refine RegXS.step ?_); (conv => whnf)))
      refine ⟨_, addK (b := 1) rfl rfl (by omega), ?_⟩; ((conv => whnf); repeat ((first | refine CodeS.step ?_ | refine RegS.step ?_ | refine RegXS.step ?_); (conv => whnf)))
      exact ⟨i + 1, by omega, ⟨rfl, hi'⟩, rfl, rfl, rfl, congrArg Value.bool (by rw [any_next hi', hp]; rfl), rfl, trivial⟩
    · ((conv => whnf); repeat ((first | refine CodeS.step ?_ | refine RegS.step ?_ | refine RegXS.step ?_); (conv => whnf)))
      refine hs.indexK rfl rfl rfl rfl (j := i) (prs_get hi') fun g off cs ro hg he => ?_; ((conv => whnf); repeat ((first | refine CodeS.step ?_ | refine RegS.step ?_ | refine RegXS.step ?_); (conv => whnf)))
      refine ⟨_, he.loadK hg (i := 0) rfl rfl rfl, ?_⟩; ((conv => whnf); repeat ((first | refine CodeS.step ?_ | refine RegS.step ?_ | refine RegXS.step ?_); (conv => whnf)))
      refine ⟨.inl rfl, ?_⟩; ((conv => whnf); repeat ((first | refine CodeS.step ?_ | refine RegS.step ?_ | refine RegXS.step ?_); (conv => whnf)))
      refine ⟨_, _, clean_ok hq.1, ?_⟩; ((conv => whnf); repeat ((first | refine CodeS.step ?_ | refine RegS.step ?_ | refine RegXS.step ?_); (conv => whnf)))
      refine ⟨.inl (Ext.refl _), ?_⟩; ((conv => whnf); repeat ((first | refine CodeS.step ?_ | refine RegS.step ?_ | refine RegXS.step ?_); (conv => whnf)))
      refine hs.indexK rfl rfl rfl rfl (j := i) (prs_get hi') fun g off cs ro hg he => ?_; ((conv => whnf); repeat ((first | refine CodeS.step ?_ | refine RegS.step ?_ | refine RegXS.step ?_); (conv => whnf)))
      refine ⟨_, he.loadK hg (i := 1) rfl rfl rfl, ?_⟩; ((conv => whnf); repeat ((first | refine CodeS.step ?_ | refine RegS.step ?_ | refine RegXS.step ?_); (conv => whnf)))
      refine ⟨.inl rfl, ?_⟩; ((conv => whnf); repeat ((first | refine CodeS.step ?_ | refine RegS.step ?_ | refine RegXS.step ?_); (conv => whnf)))
      refine ⟨_, _, clean_ok hq.2, ?_⟩; ((conv => whnf); repeat ((first | refine CodeS.step ?_ | refine RegS.step ?_ | refine RegXS.step ?_); (conv => whnf)))
      refine ⟨.inl (Ext.refl _), ?_⟩; ((conv => whnf); repeat ((first | refine CodeS.step ?_ | refine RegS.step ?_ | refine RegXS.step ?_); (conv => whnf)))
      refine ⟨_, rfl, fun hd => ?_, fun hd => ?_⟩
      · ((conv => whnf); repeat ((first | refine CodeS.step ?_ | refine RegS.step ?_ | refine RegXS.step ?_); (conv => whnf)))
        refine ⟨_, rfl, fun hb => ?_, fun hb => ?_⟩
        · ((conv => whnf); repeat ((first | refine CodeS.step ?_ | refine RegS.step ?_ | refine RegXS.step ?_); (conv => whnf)))
          refine ⟨_, addK (b := 1) rfl rfl (by omega), ?_⟩; ((conv => whnf); repeat ((first | refine CodeS.step ?_ | refine RegS.step ?_ | refine RegXS.step ?_); (conv => whnf)))
          exact ⟨i + 1, by omega, ⟨rfl, hi'⟩, rfl, rfl, rfl, congrArg Value.bool (by rw [any_next hi', hp]; unfold someAt; rw [hd, hb]; rfl), rfl, trivial⟩
        · ((conv => whnf); repeat ((first | refine CodeS.step ?_ | refine RegS.step ?_ | refine RegXS.step ?_); (conv => whnf)))
          refine hs.indexK rfl rfl rfl rfl (j := i) (prs_get hi') fun g off cs ro hg he => ?_; ((conv => whnf); repeat ((first | refine CodeS.step ?_ | refine RegS.step ?_ | refine RegXS.step ?_); (conv => whnf)))
          refine ⟨_, he.loadK hg (i := 0) rfl rfl rfl, ?_⟩; ((conv => whnf); repeat ((first | refine CodeS.step ?_ | refine RegS.step ?_ | refine RegXS.step ?_); (conv => whnf)))
          refine ⟨.inl rfl, ?_⟩; ((conv => whnf); repeat ((first | refine CodeS.step ?_ | refine RegS.step ?_ | refine RegXS.step ?_); (conv => whnf)))
          refine ⟨_, _, read_ok hq.1, ?_⟩; ((conv => whnf); repeat ((first | refine CodeS.step ?_ | refine RegS.step ?_ | refine RegXS.step ?_); (conv => whnf)))
          refine ⟨.inl (Ext.refl _), ?_⟩; ((conv => whnf); repeat ((first | refine CodeS.step ?_ | refine RegS.step ?_ | refine RegXS.step ?_); (conv => whnf)))
          refine hs.indexK rfl rfl rfl rfl (j := i) (prs_get hi') fun g off cs ro hg he => ?_; ((conv => whnf); repeat ((first | refine CodeS.step ?_ | refine RegS.step ?_ | refine RegXS.step ?_); (conv => whnf)))
          refine ⟨_, he.loadK hg (i := 1) rfl rfl rfl, ?_⟩; ((conv => whnf); repeat ((first | refine CodeS.step ?_ | refine RegS.step ?_ | refine RegXS.step ?_); (conv => whnf)))
          refine ⟨.inl rfl, ?_⟩; ((conv => whnf); repeat ((first | refine CodeS.step ?_ | refine RegS.step ?_ | refine RegXS.step ?_); (conv => whnf)))
          refine ⟨_, _, read_ok hq.2, ?_⟩; ((conv => whnf); repeat ((first | refine CodeS.step ?_ | refine RegS.step ?_ | refine RegXS.step ?_); (conv => whnf)))
          refine ⟨.inl (Ext.refl _), ?_⟩; ((conv => whnf); repeat ((first | refine CodeS.step ?_ | refine RegS.step ?_ | refine RegXS.step ?_); (conv => whnf)))
          refine ⟨_, addK (b := 1) rfl rfl (by omega), ?_⟩; ((conv => whnf); repeat ((first | refine CodeS.step ?_ | refine RegS.step ?_ | refine RegXS.step ?_); (conv => whnf)))
          exact ⟨i + 1, by omega, ⟨rfl, hi'⟩, rfl, rfl, rfl, congrArg Value.bool (by rw [any_next hi', hp]; unfold someAt; rw [hd, hb]; rfl), rfl, trivial⟩
      · ((conv => whnf); repeat ((first | refine CodeS.step ?_ | refine RegS.step ?_ | refine RegXS.step ?_); (conv => whnf)))
        refine ⟨_, addK (b := 1) rfl rfl (by omega), ?_⟩; ((conv => whnf); repeat ((first | refine CodeS.step ?_ | refine RegS.step ?_ | refine RegXS.step ?_); (conv => whnf)))
        exact ⟨i + 1, by omega, ⟨rfl, hi'⟩, rfl, rfl, rfl, congrArg Value.bool (by rw [any_next hi', hp]; unfold someAt; rw [hd]; rfl), rfl, trivial⟩
  replace hc := ge_of_ltI hc
  obtain rfl : i = l.length := by omega
  rw [List.take_length]
  (conv => whnf); refine CodeS.step ?_; (conv => whnf)
  refine CodeS.join (nn := 139) (fun h' => h' = h2) [(0, u8 k), (1, .slice a l.length cap), (2, u8 (Int.ofNat x))] rfl ?_ ?_
  · ((conv => whnf); repeat ((first | refine CodeS.step ?_ | refine RegS.step ?_ | refine RegXS.step ?_); (conv => whnf)))
    refine ⟨_, _, peval_ok hk hk2 hv hs hl (by omega), ?_⟩; ((conv => whnf); repeat ((first | refine CodeS.step ?_ | refine RegS.step ?_ | refine RegXS.step ?_); (conv => whnf)))
    refine ⟨_, _, differs_ok, ?_⟩; ((conv => whnf); repeat ((first | refine CodeS.step ?_ | refine RegS.step ?_ | refine RegXS.step ?_); (conv => whnf)))
    refine ⟨_, rfl, fun hd => ?_, fun hd => ?_⟩
    · have hsome := differs_some hd
      have z1 : (!l.any (someAt k)) = false := by rw [hsome]; rfl
      ((conv => whnf); repeat ((first | refine CodeS.step ?_ | refine RegS.step ?_ | refine RegXS.step ?_); (conv => whnf)))
      refine ⟨_, rfl, (fun hx => nomatch (hx.symm.trans z1)), fun _ => ?_⟩; ((conv => whnf); repeat ((first | refine CodeS.step ?_ | refine RegS.step ?_ | refine RegXS.step ?_); (conv => whnf)))
      exact ⟨rfl, rfl, rfl, rfl, trivial⟩
    · ((conv => whnf); repeat ((first | refine CodeS.step ?_ | refine RegS.step ?_ | refine RegXS.step ?_); (conv => whnf)))
      refine ⟨false, rfl, (fun hc => nomatch hc), fun _ => ?_⟩; ((conv => whnf); repeat ((first | refine CodeS.step ?_ | refine RegS.step ?_ | refine RegXS.step ?_); (conv => whnf)))
      exact ⟨rfl, rfl, rfl, rfl, trivial⟩
  rintro base h3 rfl
  ((conv => whnf); repeat ((first | refine CodeS.step ?_ | refine RegS.step ?_ | refine RegXS.step ?_); (conv => whnf)))
  refine ⟨_, _, control_ok hk, ?_⟩; ((conv => whnf); repeat ((first | refine CodeS.step ?_ | refine RegS.step ?_ | refine RegXS.step ?_); (conv => whnf)))
  refine ⟨_, rfl, fun hc => ?_, fun hc => ?_⟩
  · ((conv => whnf); repeat ((first | refine CodeS.step ?_ | refine RegS.step ?_ | refine RegXS.step ?_); (conv => whnf)))
    refine ⟨_, _, lives2_ok hv, ?_⟩; ((conv => whnf); repeat ((first | refine CodeS.step ?_ | refine RegS.step ?_ | refine RegXS.step ?_); (conv => whnf)))
    exact ⟨rfl, Ext.refl _⟩
  have hB : controlB k = true := by simpa using hc
  clear hc
  obtain ⟨hk4, hc01⟩ := control_cases hB
  have hcn : 0 ≤ controlL k := by omega
  have hnv : cleanL (notL (controlL k)) = 1 - controlL k := by rcases hc01 with e | e <;> rw [e] <;> rfl
  have hcc : cleanL (controlL k) = controlL k := by rcases hc01 with e | e <;> rw [e] <;> rfl
  ((conv => whnf); repeat ((first | refine CodeS.step ?_ | refine RegS.step ?_ | refine RegXS.step ?_); (conv => whnf)))
  refine ⟨_, _, makeFlatK (b := 2) (s := 2) rfl rfl rfl zeroPair rfl (by decide) plainsPair rfl rfl (by omega) (by omega), fun h4 n4 => ?_⟩; ((conv => whnf); repeat ((first | refine CodeS.step ?_ | refine RegS.step ?_ | refine RegXS.step ?_); (conv => whnf)))
  refine loopG (σ := Nat) (nn := 139) hM (by kernel_rfl) (fun i h5 => i ≤ l.length ∧ Ext h3 h5 ∧ h5.get h3.size = some (.cells (flatC (filled l.length i (pr (1 - controlL k) (1 - controlL k)) (pr 0 0))) false))
    (fun i => [(0, u8 k), (1, .slice a l.length cap), (2, u8 (Int.ofNat x)), (9, u8 (controlL k)), (11, .slice (some ⟨h3.size, 0, none⟩) l.length l.length), (12, .int .i64 (Int.ofNat i))]) (fun i => l.length - i) rfl
    ⟨0, ⟨Nat.zero_le _, n4.ext, n4.get⟩, rfl, rfl, rfl, rfl, rfl, rfl, trivial⟩ ?_
  rintro i base h5 ⟨hi, E, G⟩
  ((conv => whnf); repeat ((first | refine CodeS.step ?_ | refine RegS.step ?_ | refine RegXS.step ?_); (conv => whnf)))
  refine ⟨_, rfl, fun hc => ?_, fun hc => ?_⟩
  · replace hc := lt_of_ltI hc
    ((conv => whnf); repeat ((first | refine CodeS.step ?_ | refine RegS.step ?_ | refine RegXS.step ?_); (conv => whnf)))
    refine ⟨_, _, not_ok hcn, ?_⟩; ((conv => whnf); repeat ((first | refine CodeS.step ?_ | refine RegS.step ?_ | refine RegXS.step ?_); (conv => whnf)))
    refine ⟨_, _, of_ok notL_nonneg, ?_⟩; ((conv => whnf); repeat ((first | refine CodeS.step ?_ | refine RegS.step ?_ | refine RegXS.step ?_); (conv => whnf)))
    rw [hnv]
    refine indexK (s := 2) rfl rfl rfl rfl (j := i) hc ?_; ((conv => whnf); repeat ((first | refine CodeS.step ?_ | refine RegS.step ?_ | refine RegXS.step ?_); (conv => whnf)))
    have fl := filled_len (v := pr (1 - controlL k) (1 - controlL k)) (z := pr 0 0) hi
    have fz := flatC_length (filled_two (n := l.length) (i := i) (a := 1 - controlL k) (b := 1 - controlL k) (c := 0) (d := 0))
    refine storeK (n := 2) (l := [.int .u8 (1 - controlL k), .int .u8 (1 - controlL k)]) rfl G rfl rfl rfl (by rw [fz, fl]; omega) rfl fun h6 u6 => ?_; ((conv => whnf); repeat ((first | refine CodeS.step ?_ | refine RegS.step ?_ | refine RegXS.step ?_); (conv => whnf)))
    refine ⟨_, addK (b := 1) rfl rfl (by omega), ?_⟩; ((conv => whnf); repeat ((first | refine CodeS.step ?_ | refine RegS.step ?_ | refine RegXS.step ?_); (conv => whnf)))
    refine ⟨i + 1, by omega, ⟨hc, u6.ext E (Nat.le_refl _), ?_⟩, rfl, rfl, rfl, rfl, rfl, rfl, trivial⟩
    have := splice_flat (x := pr (1 - controlL k) (1 - controlL k)) (j := i) (filled_two (n := l.length) (i := i) (a := 1 - controlL k) (b := 1 - controlL k) (c := 0) (d := 0)) rfl (by rw [fl]; exact hc)
    rw [filled_next hc] at this
    rw [← this]
    have g6 := u6.get
    rw [Nat.zero_add] at g6
    exact g6
  replace hc := ge_of_ltI hc
  obtain rfl : i = l.length := by omega
  clear hc hi
  have Gf : filled l.length l.length (pr (1 - controlL k) (1 - controlL k)) (pr 0 0) = prs (List.replicate l.length (1 - controlL k, 1 - controlL k)) := by
    rw [prs_replicate]; simp [filled]
  rw [Gf] at G
  ((conv => whnf); repeat ((first | refine CodeS.step ?_ | refine RegS.step ?_ | refine RegXS.step ?_); (conv => whnf)))
  refine ⟨_, convIntK rfl rfl rfl (IntWalk.i64_in _ (by simp only [Int.ofNat_eq_natCast]; omega)), ?_⟩; ((conv => whnf); repeat ((first | refine CodeS.step ?_ | refine RegS.step ?_ | refine RegXS.step ?_); (conv => whnf)))
  refine ⟨_, remK (a := x) rfl rfl (by omega), ?_⟩; ((conv => whnf); repeat ((first | refine CodeS.step ?_ | refine RegS.step ?_ | refine RegXS.step ?_); (conv => whnf)))
  have hj : x % l.length < l.length := Nat.mod_lt _ (by omega)
  refine ⟨_, _, D_ok, ?_⟩; ((conv => whnf); repeat ((first | refine CodeS.step ?_ | refine RegS.step ?_ | refine RegXS.step ?_); (conv => whnf)))
  refine indexK (s := 2) rfl rfl rfl rfl (j := x % l.length) hj ?_; ((conv => whnf); repeat ((first | refine CodeS.step ?_ | refine RegS.step ?_ | refine RegXS.step ?_); (conv => whnf)))
  have lz : (prs (List.replicate l.length (1 - controlL k, 1 - controlL k))).length = l.length := by simp [prs]
  have fz : (flatC (prs (List.replicate l.length (1 - controlL k, 1 - controlL k)))).length = l.length * 2 := by rw [flatC_length (s := 2) (fun e he => prs_two e he), lz]
  refine storeK (n := 2) (l := [.int .u8 1, .int .u8 0]) rfl G rfl rfl rfl (by rw [fz]; omega) rfl fun h6 u6 => ?_; ((conv => whnf); repeat ((first | refine CodeS.step ?_ | refine RegS.step ?_ | refine RegXS.step ?_); (conv => whnf)))
  have E6 : Ext h3 h6 := u6.ext E (Nat.le_refl _)
  have G6 : h6.get h3.size = some (.cells (flatC (prs (oneDiff k l.length (x % l.length)))) false) := by
    have := splice_flat (x := pr 1 0) (j := x % l.length) (fun e he => prs_two (l := List.replicate l.length (1 - controlL k, 1 - controlL k)) e he) rfl (by rw [lz]; exact hj)
    unfold oneDiff
    rw [prs_set, ← this]
    have g6 := u6.get
    rw [Nat.zero_add] at g6
    exact g6
  clear G
  have X6 := Heap.lt_of_get G6
  refine ⟨_, _, D_ok, ?_⟩; ((conv => whnf); repeat ((first | refine CodeS.step ?_ | refine RegS.step ?_ | refine RegXS.step ?_); (conv => whnf)))
  refine ⟨_, _, allocPair, fun h7 n7 => ?_⟩; ((conv => whnf); repeat ((first | refine CodeS.step ?_ | refine RegS.step ?_ | refine RegXS.step ?_); (conv => whnf)))
  refine storeK rfl n7.get rfl rfl rfl (Nat.le_of_ble_eq_true rfl) rfl fun h80 u80 => ?_; ((conv => whnf); repeat ((first | refine RegS.step ?_ | refine RegXS.step ?_); (conv => whnf)))
  have E8 : Ext h3 h80 := u80.ext (n7.exts E6) (by omega)
  have G8 : h80.get h3.size = some (.cells (flatC (prs (oneDiff k l.length (x % l.length)))) false) := u80.keep (by omega) (n7.keep G6)
  have e14 : h80.get h6.size = some (.cells [.int .u8 1, .int .u8 0] false) := u80.get
  (conv => whnf)
  refine CodeS.join (nn := 139) (fun h' => Ext h3 h' ∧ h'.get h3.size = some (.cells (flatC (prs (oneDiff k l.length (x % l.length)))) false) ∧ h'.get h6.size = some (.cells [.int .u8 (if invertsL k = true then ((0 : Int), (1 : Int)) else (1, 0)).1, .int .u8 (if invertsL k = true then ((0 : Int), (1 : Int)) else (1, 0)).2] false))
    [(0, u8 k), (1, .slice a l.length cap), (9, u8 (controlL k)), (11, .slice (some ⟨h3.size, 0, none⟩) l.length l.length), (13, .int .i64 (Int.ofNat (x % l.length))), (14, .pointer (some ⟨h6.size, 0, none⟩))] rfl ?_ ?_
  · ((conv => whnf); repeat ((first | refine CodeS.step ?_ | refine RegS.step ?_ | refine RegXS.step ?_); (conv => whnf)))
    refine ⟨_, _, inverts_ok hk, ?_⟩; ((conv => whnf); repeat ((first | refine CodeS.step ?_ | refine RegS.step ?_ | refine RegXS.step ?_); (conv => whnf)))
    refine ⟨_, rfl, fun hd => ?_, fun hd => ?_⟩
    · ((conv => whnf); repeat ((first | refine CodeS.step ?_ | refine RegS.step ?_ | refine RegXS.step ?_); (conv => whnf)))
      refine ⟨_, _, B_ok, ?_⟩; ((conv => whnf); repeat ((first | refine CodeS.step ?_ | refine RegS.step ?_ | refine RegXS.step ?_); (conv => whnf)))
      refine storeK rfl e14 rfl rfl rfl (Nat.le_of_ble_eq_true rfl) rfl fun h9 u9 => ?_; ((conv => whnf); repeat ((first | refine CodeS.step ?_ | refine RegS.step ?_ | refine RegXS.step ?_); (conv => whnf)))
      refine ⟨⟨u9.ext E8 (by omega), u9.keep (by omega) G8, ?_⟩, rfl, rfl, rfl, rfl, rfl, rfl, trivial⟩
      rw [if_pos hd]
      exact u9.get
    · ((conv => whnf); repeat ((first | refine CodeS.step ?_ | refine RegS.step ?_ | refine RegXS.step ?_); (conv => whnf)))
      refine ⟨⟨E8, G8, ?_⟩, rfl, rfl, rfl, rfl, rfl, rfl, trivial⟩
      rw [if_neg (by rw [hd]; simp)]
      exact e14
  rintro base h9 ⟨E9, G9, e14'⟩
  have on := oneDiff_out hn2 hn hj hk4
  generalize hw : (if invertsL k = true then ((0 : Int), (1 : Int)) else (1, 0)) = w at on e14'
  have hwd : differsL w.1 w.2 = true := by rw [← hw]; split <;> rfl
  have dl := oneDiff_len k l.length (x % l.length)
  have nn : ∀ q ∈ oneDiff k l.length (x % l.length), 0 ≤ q.1 ∧ 0 ≤ q.2 := fun q hq => set_all (p := fun q : Int × Int => 0 ≤ q.1 ∧ 0 ≤ q.2) (fun y hy => by rw [(List.mem_replicate.1 hy).2]; exact ⟨by omega, by omega⟩) ⟨by decide, by decide⟩ q hq
  ((conv => whnf); repeat ((first | refine CodeS.step ?_ | refine RegS.step ?_ | refine RegXS.step ?_); (conv => whnf)))
  refine ⟨_, _, peval_ok hk hk2 (hv.ext E9) (sl_prs G9 dl.symm) nn (by omega), ?_⟩; ((conv => whnf); repeat ((first | refine CodeS.step ?_ | refine RegS.step ?_ | refine RegXS.step ?_); (conv => whnf)))
  refine ⟨_, _, allocPair, fun h10 n10 => ?_⟩; ((conv => whnf); repeat ((first | refine CodeS.step ?_ | refine RegS.step ?_ | refine RegXS.step ?_); (conv => whnf)))
  refine storeK rfl n10.get rfl rfl rfl (Nat.le_of_ble_eq_true rfl) rfl fun h11 u11 => ?_; ((conv => whnf); repeat ((first | refine CodeS.step ?_ | refine RegS.step ?_ | refine RegXS.step ?_); (conv => whnf)))
  have X9 := Heap.lt_of_get G9
  have X14 := Heap.lt_of_get e14'
  have E11 : Ext h3 h11 := u11.ext (n10.exts E9) (by omega)
  have G11 : h11.get h3.size = some (.cells (flatC (prs (oneDiff k l.length (x % l.length)))) false) := u11.keep (by omega) (n10.keep G9)
  have e14 := u11.keep (k := h6.size) (by omega) (n10.keep e14')
  have e15 : h11.get h9.size = some (.cells [.int .u8 (pevalL k (oneDiff k l.length (x % l.length))).1, .int .u8 (pevalL k (oneDiff k l.length (x % l.length))).2] false) := u11.get
  rw [on] at e15
  refine ⟨_, addK (b := 1) rfl rfl (by omega), ?_⟩; ((conv => whnf); repeat ((first | refine CodeS.step ?_ | refine RegS.step ?_ | refine RegXS.step ?_); (conv => whnf)))
  refine ⟨_, remK (a := x % l.length + 1) rfl rfl (by omega), ?_⟩; ((conv => whnf); repeat ((first | refine CodeS.step ?_ | refine RegS.step ?_ | refine RegXS.step ?_); (conv => whnf)))
  have hi2 : (x % l.length + 1) % l.length < l.length := Nat.mod_lt _ (by omega)
  refine ⟨_, _, of_ok hcn, ?_⟩; ((conv => whnf); repeat ((first | refine CodeS.step ?_ | refine RegS.step ?_ | refine RegXS.step ?_); (conv => whnf)))
  refine ⟨.inl (Ext.refl _), ?_⟩; ((conv => whnf); repeat ((first | refine CodeS.step ?_ | refine RegS.step ?_ | refine RegXS.step ?_); (conv => whnf)))
  refine indexK (s := 2) rfl rfl rfl rfl (j := (x % l.length + 1) % l.length) hi2 ?_; ((conv => whnf); repeat ((first | refine CodeS.step ?_ | refine RegS.step ?_ | refine RegXS.step ?_); (conv => whnf)))
  have lz2 : (prs (oneDiff k l.length (x % l.length))).length = l.length := by simp [prs, dl]
  have fz2 : (flatC (prs (oneDiff k l.length (x % l.length)))).length = l.length * 2 := by rw [flatC_length (s := 2) (fun e he => prs_two e he), lz2]
  refine storeK (n := 2) (l := [.int .u8 (cleanL (controlL k)), .int .u8 (cleanL (controlL k))]) rfl G11 rfl rfl rfl (by rw [fz2]; omega) rfl fun h12 u12 => ?_; ((conv => whnf); repeat ((first | refine CodeS.step ?_ | refine RegS.step ?_ | refine RegXS.step ?_); (conv => whnf)))
  refine ⟨.inl (by kernel_rfl), ?_⟩; ((conv => whnf); repeat ((first | refine CodeS.step ?_ | refine RegS.step ?_ | refine RegXS.step ?_); (conv => whnf)))
  have E12 : Ext h3 h12 := u12.ext E11 (Nat.le_refl _)
  have G12 : h12.get h3.size = some (.cells (flatC (prs ((oneDiff k l.length (x % l.length)).set ((x % l.length + 1) % l.length) (controlL k, controlL k)))) false) := by
    have := splice_flat (x := pr (cleanL (controlL k)) (cleanL (controlL k))) (j := (x % l.length + 1) % l.length) (fun e he => prs_two (l := oneDiff k l.length (x % l.length)) e he) rfl (by rw [lz2]; exact hi2)
    rw [prs_set]
    rw [hcc] at this
    show _ = some (AObj.cells (flatC ((prs (oneDiff k l.length (x % l.length))).set ((x % l.length + 1) % l.length) (pr (controlL k) (controlL k)))) false)
    rw [← this]
    have g12 := u12.get
    rw [Nat.zero_add, hcc] at g12
    exact g12
  have e14 := u12.keep (k := h6.size) (by omega) e14
  have e15 := u12.keep (k := h9.size) (by omega) e15
  have weq : (w.1 == w.1 && w.2 == w.2) = true := by simp
  have ml : ((oneDiff k l.length (x % l.length)).set ((x % l.length + 1) % l.length) (controlL k, controlL k)).length = l.length := by simp [dl]
  have nn2 : ∀ q ∈ (oneDiff k l.length (x % l.length)).set ((x % l.length + 1) % l.length) (controlL k, controlL k), 0 ≤ q.1 ∧ 0 ≤ q.2 := set_all (p := fun q : Int × Int => 0 ≤ q.1 ∧ 0 ≤ q.2) nn ⟨hcn, hcn⟩
  have mo := masked_out (j := x % l.length) hn2 hn hi2 hk4
  have mo' : (!differsL (pevalL k ((oneDiff k l.length (x % l.length)).set ((x % l.length + 1) % l.length) (controlL k, controlL k))).1 (pevalL k ((oneDiff k l.length (x % l.length)).set ((x % l.length + 1) % l.length) (controlL k, controlL k))).2) = true := by rw [mo]; rfl
  refine ⟨_, loadAggK rfl e15 rfl rfl (Nat.le_of_ble_eq_true rfl) rfl, ?_⟩; ((conv => whnf); repeat ((first | refine CodeS.step ?_ | refine RegS.step ?_ | refine RegXS.step ?_); (conv => whnf)))
  refine ⟨_, loadAggK rfl e14 rfl rfl (Nat.le_of_ble_eq_true rfl) rfl, ?_⟩; ((conv => whnf); repeat ((first | refine CodeS.step ?_ | refine RegS.step ?_ | refine RegXS.step ?_); (conv => whnf)))
  refine ⟨_, eqPair rfl rfl, ?_⟩; ((conv => whnf); repeat ((first | refine CodeS.step ?_ | refine RegS.step ?_ | refine RegXS.step ?_); (conv => whnf)))
  refine ⟨_, rfl, fun _ => ?_, (fun hx => nomatch (hx.symm.trans weq))⟩; ((conv => whnf); repeat ((first | refine CodeS.step ?_ | refine RegS.step ?_ | refine RegXS.step ?_); (conv => whnf)))
  refine ⟨_, loadAggK rfl e15 rfl rfl (Nat.le_of_ble_eq_true rfl) rfl, ?_⟩; ((conv => whnf); repeat ((first | refine CodeS.step ?_ | refine RegS.step ?_ | refine RegXS.step ?_); (conv => whnf)))
  refine ⟨_, _, differs_ok, ?_⟩; ((conv => whnf); repeat ((first | refine CodeS.step ?_ | refine RegS.step ?_ | refine RegXS.step ?_); (conv => whnf)))
  refine ⟨_, rfl, fun _ => ?_, (fun hx => nomatch (hx.symm.trans hwd))⟩; ((conv => whnf); repeat ((first | refine CodeS.step ?_ | refine RegS.step ?_ | refine RegXS.step ?_); (conv => whnf)))
  refine ⟨_, _, peval_ok hk hk2 (hv.ext E12) (sl_prs G12 ml.symm) nn2 (by omega), ?_⟩; ((conv => whnf); repeat ((first | refine CodeS.step ?_ | refine RegS.step ?_ | refine RegXS.step ?_); (conv => whnf)))
  refine ⟨_, _, differs_ok, ?_⟩; ((conv => whnf); repeat ((first | refine CodeS.step ?_ | refine RegS.step ?_ | refine RegXS.step ?_); (conv => whnf)))
  refine ⟨_, rfl, fun _ => ?_, (fun hx => nomatch (hx.symm.trans mo'))⟩; ((conv => whnf); repeat ((first | refine CodeS.step ?_ | refine RegS.step ?_ | refine RegXS.step ?_); (conv => whnf)))
  refine ⟨_, _, lives2_ok (hv.ext E12), ?_⟩; ((conv => whnf); repeat ((first | refine CodeS.step ?_ | refine RegS.step ?_ | refine RegXS.step ?_); (conv => whnf)))
  exact ⟨rfl, E12⟩

theorem pairsDiffer_call (h : Heap) (x : DenL [(.int .u8, false), (.slice shPair, false), (.int .u8, false)]) (avs : List Value) (hv : Vars h) (r : RepL h [(.int .u8, false), (.slice shPair, false), (.int .u8, false)] x avs) : CallD Tryd.prog NG 10 ⟨avs⟩ h (.bool true) h := by
  obtain ⟨x, y, z, _⟩ := x
  obtain ⟨_, _, rfl, w1, r1, _, _, rfl, w2, r2, _, _, rfl, w3, r3, rfl⟩ := r
  obtain ⟨rfl, h1⟩ := rep_u8 w1 r1
  obtain ⟨s2, h2⟩ := rep_pairs w2 r2
  obtain ⟨rfl, h3⟩ := rep_u8 w3 r3
  obtain ⟨a, cap, rfl⟩ := s2.shape
  exact pairsDiffer_run hv h1.1 h1.2 s2 (fun q hq => ⟨(h2 q hq).1.1, (h2 q hq).2.1⟩) h3.1 h3.2
end Go.Proofs.YtbfgncmnallhlaaDoor
