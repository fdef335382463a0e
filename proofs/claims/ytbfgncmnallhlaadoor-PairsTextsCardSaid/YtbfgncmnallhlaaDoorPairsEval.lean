/-
  The law PairsEval: its walk.
-/
import Derived.Test.YtbfgncmnallhlaaDoorArgs
namespace Go.Proofs.YtbfgncmnallhlaaDoor
open Go.Abs
set_option maxRecDepth 100000

theorem vals_one {l : List Int} (e : Value) (he : e ∈ vals l) : (cl e).length = 1 := by
  simp only [vals, List.mem_map] at he
  obtain ⟨x, _, rfl⟩ := he
  rfl
theorem prs_two {l : List (Int × Int)} (e : Value) (he : e ∈ prs l) : (cl e).length = 2 := by
  simp only [prs, List.mem_map] at he
  obtain ⟨x, _, rfl⟩ := he
  rfl
theorem growV_congr {s : Nat} {a : Option Nat} {l l' : List Value} (e : l = l') : growV s a l = growV s a l' := by rw [e]


theorem take_fst {l : List (Int × Int)} {i : Nat} (h : i < l.length) : (l.take (i + 1)).map (fun q => q.1) = (l.take i).map (fun q => q.1) ++ [l[i].1] := by
  rw [List.take_succ_eq_append_getElem h, List.map_append]; rfl
theorem take_snd {l : List (Int × Int)} {i : Nat} (h : i < l.length) : (l.take (i + 1)).map (fun q => q.2) = (l.take i).map (fun q => q.2) ++ [l[i].2] := by
  rw [List.take_succ_eq_append_getElem h, List.map_append]; rfl
theorem take_swap {l : List (Int × Int)} {i : Nat} (h : i < l.length) : (l.take (i + 1)).map (fun q => (q.2, q.1)) = (l.take i).map (fun q => (q.2, q.1)) ++ [(l[i].2, l[i].1)] := by
  rw [List.take_succ_eq_append_getElem h, List.map_append]; rfl

def pgoods (l : List (Int × Int)) (i : Nat) : List Value := vals ((l.take i).map fun q => q.1)
def pbads (l : List (Int × Int)) (i : Nat) : List Value := vals ((l.take i).map fun q => q.2)
def pswaps (l : List (Int × Int)) (i : Nat) : List Value := prs ((l.take i).map fun q => (q.2, q.1))
theorem pgoods_next {l : List (Int × Int)} {i : Nat} (h : i < l.length) : pgoods l i ++ [u8 l[i].1] = pgoods l (i + 1) := by unfold pgoods; rw [take_fst h]; simp [vals]
theorem pbads_next {l : List (Int × Int)} {i : Nat} (h : i < l.length) : pbads l i ++ [u8 l[i].2] = pbads l (i + 1) := by unfold pbads; rw [take_snd h]; simp [vals]
theorem pswaps_next {l : List (Int × Int)} {i : Nat} (h : i < l.length) : pswaps l i ++ [pr l[i].2 l[i].1] = pswaps l (i + 1) := by unfold pswaps; rw [take_swap h]; simp [prs]
theorem pgoods_len {l : List (Int × Int)} {i : Nat} (h : i ≤ l.length) : (pgoods l i).length = i := by simp [pgoods, vals]; omega
theorem pbads_len {l : List (Int × Int)} {i : Nat} (h : i ≤ l.length) : (pbads l i).length = i := by simp [pbads, vals]; omega
theorem pswaps_len {l : List (Int × Int)} {i : Nat} (h : i ≤ l.length) : (pswaps l i).length = i := by simp [pswaps, prs]; omega


theorem pairsEval_run {h : Heap} (hv : Vars h) {k : Int} (hk : 0 ≤ k) (hk2 : k < 256) {a : Option Addr} {n cap : Nat} {l : List (Int × Int)} (hs : Sl h 2 (.slice a n cap) (prs l)) (hl : ∀ q ∈ l, 0 ≤ q.1 ∧ 0 ≤ q.2) :
    CallD Tryd.prog NG 4 #[u8 k, .slice a n cap] h (.bool true) h := by
  obtain rfl := prs_len hs
  refine fnP hM Tryd.func4 rfl (hP _ _ rfl Tryd.func4) (Nat.le_of_ble_eq_true rfl) (by kernel_rfl) ?_; ((conv => whnf); repeat ((first | refine CodeS.step ?_ | refine RegS.step ?_ | refine RegXS.step ?_); (conv => whnf)))
  refine ⟨_, rfl, fun hc => ?_, fun hc => ?_⟩
  · ((conv => whnf); repeat ((first | refine CodeS.step ?_ | refine RegS.step ?_ | refine RegXS.step ?_); (conv => whnf)))
    refine ⟨_, _, lives2_ok hv, ?_⟩; ((conv => whnf); repeat ((first | refine CodeS.step ?_ | refine RegS.step ?_ | refine RegXS.step ?_); (conv => whnf)))
    exact ⟨rfl, Ext.refl _⟩
  have hn : l.length ≤ 20 := ge_of_ltI (a := 20) hc
  clear hc
  ((conv => whnf); repeat ((first | refine CodeS.step ?_ | refine RegS.step ?_ | refine RegXS.step ?_); (conv => whnf)))
  refine loopG (σ := Nat × Option Nat × Option Nat × Option Nat) (nn := 78) hM (by kernel_rfl)
    (fun (i, a5, a6, a7) h2 => i ≤ l.length ∧ Ext h h2 ∧ (Grow h2 1 a5 (pgoods l i) ∧ ∀ g, a5 = some g → h.size ≤ g) ∧ (Grow h2 1 a6 (pbads l i) ∧ ∀ g, a6 = some g → h.size ≤ g) ∧ (Grow h2 2 a7 (pswaps l i) ∧ ∀ g, a7 = some g → h.size ≤ g) ∧
      (∀ g, a5 = some g → a6 ≠ some g) ∧ (∀ g, a5 = some g → a7 ≠ some g) ∧ (∀ g, a6 = some g → a7 ≠ some g))
    (fun (i, a5, a6, a7) => [(0, u8 k), (1, .slice a l.length cap), (5, growV 1 a5 (pgoods l i)), (6, growV 1 a6 (pbads l i)), (7, growV 2 a7 (pswaps l i)), (8, .int .i64 (Int.ofNat i))]) (fun (i, _, _, _) => l.length - i) rfl
    ⟨(0, none, none, none), ⟨Nat.zero_le _, Ext.refl _, ⟨Grow.start _ _, by simp⟩, ⟨Grow.start _ _, by simp⟩, ⟨Grow.start _ _, by simp⟩, by simp, by simp, by simp⟩, rfl, rfl, rfl, rfl, rfl, rfl, trivial⟩ ?_
  rintro ⟨i, a5, a6, a7⟩ base h2 ⟨hi, E, ⟨G5, F5⟩, ⟨G6, F6⟩, ⟨G7, F7⟩, D56, D57, D67⟩
  have L5 := pgoods_len hi
  have L6 := pbads_len hi
  have L7 := pswaps_len hi
  ((conv => whnf); repeat ((first | refine CodeS.step ?_ | refine RegS.step ?_ | refine RegXS.step ?_); (conv => whnf)))
  refine ⟨_, rfl, fun hc => ?_, fun hc => ?_⟩
  · replace hc := lt_of_ltI hc
    ((conv => whnf); repeat ((first | refine CodeS.step ?_ | refine RegS.step ?_ | refine RegXS.step ?_); (conv => whnf)))
    -- the good value
    refine (hs.ext E).indexK rfl rfl rfl rfl (j := i) (prs_get hc) fun g off cs ro hg he => ?_; ((conv => whnf); repeat ((first | refine CodeS.step ?_ | refine RegS.step ?_ | refine RegXS.step ?_); (conv => whnf)))
    refine ⟨_, he.loadK hg (i := 0) rfl rfl rfl, ?_⟩; ((conv => whnf); repeat ((first | refine CodeS.step ?_ | refine RegS.step ?_ | refine RegXS.step ?_); (conv => whnf)))
    refine ⟨_, _, buildK (vs := [u8 l[i].1]) (s := 1) rfl rfl zeroValue plainsValue rfl rfl rfl rfl (one_mem rfl), fun h3 n3 => ?_⟩; ((conv => whnf); repeat ((first | refine CodeS.step ?_ | refine RegS.step ?_ | refine RegXS.step ?_); (conv => whnf)))
    refine growK (b := 1) (new := [u8 l[i].1]) (G5.ext n3.ext) rfl rfl rfl rfl rfl zeroValue rfl rfl rfl n3.get rfl (by omega) (one_mem rfl) rfl (by omega) (by omega) fun h4 g4 Q4 => ?_; ((conv => whnf); repeat ((first | refine CodeS.step ?_ | refine RegS.step ?_ | refine RegXS.step ?_); (conv => whnf)))
    have E4 : Ext h h4 := Q4.ext (n3.exts E) F5
    have B5 := Q4.fresh
    have S3 := n3.size
    have S4 := Q4.size
    have G5' := Q4.grow
    have G6' : Grow h4 1 a6 (pbads l i) := (G6.ext n3.ext).keep fun x ex hx => Q4.other x hx (fun q => D56 x q ex)
    have G7' : Grow h4 2 a7 (pswaps l i) := (G7.ext n3.ext).keep fun x ex hx => Q4.other x hx (fun q => D57 x q ex)
    have B6 : ∀ x, a6 = some x → x < h2.size := fun x ex => Heap.lt_of_get (G6.get x ex)
    have B7 : ∀ x, a7 = some x → x < h2.size := fun x ex => Heap.lt_of_get (G7.get x ex)
    -- the bad value
    refine (hs.ext E4).indexK rfl rfl rfl rfl (j := i) (prs_get hc) fun g off cs ro hg he => ?_; ((conv => whnf); repeat ((first | refine CodeS.step ?_ | refine RegS.step ?_ | refine RegXS.step ?_); (conv => whnf)))
    refine ⟨_, he.loadK hg (i := 1) rfl rfl rfl, ?_⟩; ((conv => whnf); repeat ((first | refine CodeS.step ?_ | refine RegS.step ?_ | refine RegXS.step ?_); (conv => whnf)))
    refine ⟨_, _, buildK (vs := [u8 l[i].2]) (s := 1) rfl rfl zeroValue plainsValue rfl rfl rfl rfl (one_mem rfl), fun h5 n5 => ?_⟩; ((conv => whnf); repeat ((first | refine CodeS.step ?_ | refine RegS.step ?_ | refine RegXS.step ?_); (conv => whnf)))
    refine growK (b := 1) (new := [u8 l[i].2]) (G6'.ext n5.ext) rfl rfl rfl rfl rfl zeroValue rfl rfl rfl n5.get rfl (by omega) (one_mem rfl) rfl (by omega) (by omega) fun h6 g6 Q6 => ?_; ((conv => whnf); repeat ((first | refine CodeS.step ?_ | refine RegS.step ?_ | refine RegXS.step ?_); (conv => whnf)))
    have E6 : Ext h h6 := Q6.ext (n5.exts E4) F6
    have C6 := Q6.fresh
    have S5 := n5.size
    have S6 := Q6.size
    have B4 : g4 < h4.size := Heap.lt_of_get (G5'.get g4 rfl)
    have G5'' : Grow h6 1 (some g4) (pgoods l i ++ [u8 l[i].1]) := (G5'.ext n5.ext).keep fun x ex hx => Q6.other x hx (fun q => by cases ex; have := B6 _ q; omega)
    have G7'' : Grow h6 2 a7 (pswaps l i) := (G7'.ext n5.ext).keep fun x ex hx => Q6.other x hx (fun q => D67 x q ex)
    have G6'' := Q6.grow
    have B6' : g6 < h6.size := Heap.lt_of_get (G6''.get g6 rfl)
    -- the pair the other way round
    refine (hs.ext E6).indexK rfl rfl rfl rfl (j := i) (prs_get hc) fun g off cs ro hg he => ?_; ((conv => whnf); repeat ((first | refine CodeS.step ?_ | refine RegS.step ?_ | refine RegXS.step ?_); (conv => whnf)))
    refine ⟨_, he.loadK hg (i := 1) rfl rfl rfl, ?_⟩; ((conv => whnf); repeat ((first | refine CodeS.step ?_ | refine RegS.step ?_ | refine RegXS.step ?_); (conv => whnf)))
    refine ⟨.inl rfl, ?_⟩; ((conv => whnf); repeat ((first | refine CodeS.step ?_ | refine RegS.step ?_ | refine RegXS.step ?_); (conv => whnf)))
    refine (hs.ext E6).indexK rfl rfl rfl rfl (j := i) (prs_get hc) fun g' off' cs' ro' hg' he' => ?_; ((conv => whnf); repeat ((first | refine CodeS.step ?_ | refine RegS.step ?_ | refine RegXS.step ?_); (conv => whnf)))
    refine ⟨_, he'.loadK hg' (i := 0) rfl rfl rfl, ?_⟩; ((conv => whnf); repeat ((first | refine CodeS.step ?_ | refine RegS.step ?_ | refine RegXS.step ?_); (conv => whnf)))
    refine ⟨.inl rfl, ?_⟩; ((conv => whnf); repeat ((first | refine CodeS.step ?_ | refine RegS.step ?_ | refine RegXS.step ?_); (conv => whnf)))
    refine ⟨_, buildPair rfl, ?_⟩; ((conv => whnf); repeat ((first | refine CodeS.step ?_ | refine RegS.step ?_ | refine RegXS.step ?_); (conv => whnf)))
    refine ⟨_, _, buildK (vs := [pr l[i].2 l[i].1]) (s := 2) rfl rfl zeroPair plainsPair rfl rfl rfl rfl (one_mem rfl), fun h7 n7 => ?_⟩; ((conv => whnf); repeat ((first | refine CodeS.step ?_ | refine RegS.step ?_ | refine RegXS.step ?_); (conv => whnf)))
    refine growK (b := 2) (new := [pr l[i].2 l[i].1]) (G7''.ext n7.ext) rfl rfl rfl rfl rfl zeroPair rfl rfl rfl n7.get rfl (by omega) (one_mem rfl) rfl (by omega) (by omega) fun h8 g8 Q8 => ?_; ((conv => whnf); repeat ((first | refine CodeS.step ?_ | refine RegS.step ?_ | refine RegXS.step ?_); (conv => whnf)))
    refine ⟨.inl (by kernel_rfl), ?_⟩; ((conv => whnf); repeat ((first | refine CodeS.step ?_ | refine RegS.step ?_ | refine RegXS.step ?_); (conv => whnf)))
    have E8 : Ext h h8 := Q8.ext (n7.exts E6) F7
    have C8 := Q8.fresh
    have S7 := n7.size
    have G5e : Grow h8 1 (some g4) (pgoods l i ++ [u8 l[i].1]) := (G5''.ext n7.ext).keep fun x ex hx => Q8.other x hx (fun q => by cases ex; have := B7 _ q; omega)
    have G6e : Grow h8 1 (some g6) (pbads l i ++ [u8 l[i].2]) := (G6''.ext n7.ext).keep fun x ex hx => Q8.other x hx (fun q => by cases ex; have := B7 _ q; omega)
    have G7e := Q8.grow
    refine ⟨_, addK (b := 1) rfl rfl (by omega), ?_⟩; ((conv => whnf); repeat ((first | refine CodeS.step ?_ | refine RegS.step ?_ | refine RegXS.step ?_); (conv => whnf)))
    rw [pgoods_next hc] at G5e
    rw [pbads_next hc] at G6e
    rw [pswaps_next hc] at G7e
    have X1 := E.1
    refine ⟨(i + 1, some g4, some g6, some g8), by simp only; omega, ⟨hc, E8, ⟨G5e, fun x e => by cases e; omega⟩, ⟨G6e, fun x e => by cases e; omega⟩, ⟨G7e, fun x e => by cases e; omega⟩, fun x e q => by cases e; cases q; omega, fun x e q => by cases e; cases q; omega, fun x e q => by cases e; cases q; omega⟩,
      rfl, rfl, growV_congr (pgoods_next hc), growV_congr (pbads_next hc), growV_congr (pswaps_next hc), rfl, trivial⟩
  · replace hc := ge_of_ltI hc
    obtain rfl : i = l.length := by omega
    have hl7 : ∀ q ∈ l.map (fun q => (q.2, q.1)), 0 ≤ q.1 ∧ 0 ≤ q.2 := by
      intro q hq
      simp only [List.mem_map] at hq
      obtain ⟨y, hy, rfl⟩ := hq
      exact ⟨(hl y hy).2, (hl y hy).1⟩
    have T5 : pgoods l l.length = vals (l.map fun q => q.1) := by unfold pgoods; rw [List.take_length]
    have T6 : pbads l l.length = vals (l.map fun q => q.2) := by unfold pbads; rw [List.take_length]
    have T7 : pswaps l l.length = prs (l.map fun q => (q.2, q.1)) := by unfold pswaps; rw [List.take_length]
    have G5s : Sl h2 1 (growV 1 a5 (pgoods l l.length)) (vals (l.map fun q => q.1)) := by rw [← T5]; exact G5.sl
    have G6s : Sl h2 1 (growV 1 a6 (pbads l l.length)) (vals (l.map fun q => q.2)) := by rw [← T6]; exact G6.sl
    have G7s : Sl h2 2 (growV 2 a7 (pswaps l l.length)) (prs (l.map fun q => (q.2, q.1))) := by rw [← T7]; exact G7.sl
    ((conv => whnf); repeat ((first | refine CodeS.step ?_ | refine RegS.step ?_ | refine RegXS.step ?_); (conv => whnf)))
    refine ⟨_, _, peval_ok hk hk2 (hv.ext E) (hs.ext E) hl (by omega), ?_⟩; ((conv => whnf); repeat ((first | refine CodeS.step ?_ | refine RegS.step ?_ | refine RegXS.step ?_); (conv => whnf)))
    refine ⟨_, _, allocPair, fun h3 n3 => ?_⟩; ((conv => whnf); repeat ((first | refine CodeS.step ?_ | refine RegS.step ?_ | refine RegXS.step ?_); (conv => whnf)))
    refine storeK rfl n3.get rfl rfl rfl (Nat.le_of_ble_eq_true rfl) rfl fun h4 u4 => ?_; ((conv => whnf); repeat ((first | refine CodeS.step ?_ | refine RegS.step ?_ | refine RegXS.step ?_); (conv => whnf)))
    have E3 := n3.exts E
    have X1 := E.1
    have E4 : Ext h h4 := u4.ext E3 X1
    have e9 : h4.get h2.size = some (.cells [.int .u8 (pevalL k l).1, .int .u8 (pevalL k l).2] false) := u4.get
    have K4 : Ext h2 h4 := u4.ext n3.ext (Nat.le_refl _)
    refine ⟨_, _, peval_ok hk hk2 (hv.ext E4) (G7s.ext K4) hl7 (by simp; omega), ?_⟩; ((conv => whnf); repeat ((first | refine CodeS.step ?_ | refine RegS.step ?_ | refine RegXS.step ?_); (conv => whnf)))
    refine ⟨_, _, allocPair, fun h5 n5 => ?_⟩; ((conv => whnf); repeat ((first | refine CodeS.step ?_ | refine RegS.step ?_ | refine RegXS.step ?_); (conv => whnf)))
    refine storeK rfl n5.get rfl rfl rfl (Nat.le_of_ble_eq_true rfl) rfl fun h6 u6 => ?_; ((conv => whnf); repeat ((first | refine CodeS.step ?_ | refine RegS.step ?_ | refine RegXS.step ?_); (conv => whnf)))
    have E6 : Ext h h6 := u6.ext (n5.exts E4) E4.1
    have K6 : Ext h2 h6 := u6.ext (n5.exts K4) K4.1
    have e9' : h6.get h2.size = some (.cells [.int .u8 (pevalL k l).1, .int .u8 (pevalL k l).2] false) := u6.keep (by have := Heap.lt_of_get e9; omega) (n5.keep e9)
    have e10 : h6.get h4.size = some (.cells [.int .u8 (pevalL k (l.map fun q => (q.2, q.1))).1, .int .u8 (pevalL k (l.map fun q => (q.2, q.1))).2] false) := u6.get
    have l1 : ∀ x ∈ l.map (fun q => q.1), 0 ≤ x := by intro x hx; simp only [List.mem_map] at hx; obtain ⟨q, hq, rfl⟩ := hx; exact (hl q hq).1
    have l2 : ∀ x ∈ l.map (fun q => q.2), 0 ≤ x := by intro x hx; simp only [List.mem_map] at hx; obtain ⟨q, hq, rfl⟩ := hx; exact (hl q hq).2
    have hm : ∀ f : Int × Int → Int, (l.map f).length < 2 ^ 62 := fun f => by simp; omega
    refine ⟨_, loadAggK rfl e9' rfl rfl (Nat.le_of_ble_eq_true rfl) rfl, ?_⟩; ((conv => whnf); repeat ((first | refine CodeS.step ?_ | refine RegS.step ?_ | refine RegXS.step ?_); (conv => whnf)))
    refine ⟨.inl (by kernel_rfl), ?_⟩; ((conv => whnf); repeat ((first | refine CodeS.step ?_ | refine RegS.step ?_ | refine RegXS.step ?_); (conv => whnf)))
    refine ⟨_, _, eval_ok hk hk2 (hv.ext E6) (G5s.ext K6) l1 (hm _), ?_⟩; ((conv => whnf); repeat ((first | refine CodeS.step ?_ | refine RegS.step ?_ | refine RegXS.step ?_); (conv => whnf)))
    refine ⟨.inl (Ext.refl _), ?_⟩; ((conv => whnf); repeat ((first | refine CodeS.step ?_ | refine RegS.step ?_ | refine RegXS.step ?_); (conv => whnf)))
    refine ⟨_, _, eval_ok hk hk2 (hv.ext E6) (G6s.ext K6) l2 (hm _), ?_⟩; ((conv => whnf); repeat ((first | refine CodeS.step ?_ | refine RegS.step ?_ | refine RegXS.step ?_); (conv => whnf)))
    refine ⟨.inl (Ext.refl _), ?_⟩; ((conv => whnf); repeat ((first | refine CodeS.step ?_ | refine RegS.step ?_ | refine RegXS.step ?_); (conv => whnf)))
    repeat ((first | refine ⟨_, loadK rfl (by assumption) rfl rfl, ?_⟩ | refine ⟨_, loadAggK rfl (by assumption) rfl rfl (Nat.le_of_ble_eq_true rfl) rfl, ?_⟩ | refine ⟨_, eqPair rfl rfl, ?_⟩ | refine ⟨_, nePair rfl rfl, ?_⟩ | refine ⟨_, buildPair rfl, ?_⟩ | refine ⟨.inl rfl, ?_⟩ | refine ⟨.inl (Ext.refl _), ?_⟩ | refine ⟨.inl plain_pr, ?_⟩ | refine ⟨.inl (plain_pr (a := _)), ?_⟩); ((conv => whnf); repeat ((first | refine CodeS.step ?_ | refine RegS.step ?_ | refine RegXS.step ?_); (conv => whnf))))
    refine ⟨_, rfl, fun _ => ?_, fun hc => ?_⟩
    · ((conv => whnf); repeat ((first | refine CodeS.step ?_ | refine RegS.step ?_ | refine RegXS.step ?_); (conv => whnf)))
      refine ⟨_, loadAggK rfl e10 rfl rfl (Nat.le_of_ble_eq_true rfl) rfl, ?_⟩; ((conv => whnf); repeat ((first | refine CodeS.step ?_ | refine RegS.step ?_ | refine RegXS.step ?_); (conv => whnf)))
      refine ⟨.inl (by kernel_rfl), ?_⟩; ((conv => whnf); repeat ((first | refine CodeS.step ?_ | refine RegS.step ?_ | refine RegXS.step ?_); (conv => whnf)))
      repeat ((first | refine ⟨_, loadK rfl (by assumption) rfl rfl, ?_⟩ | refine ⟨_, loadAggK rfl (by assumption) rfl rfl (Nat.le_of_ble_eq_true rfl) rfl, ?_⟩ | refine ⟨_, eqPair rfl rfl, ?_⟩ | refine ⟨_, nePair rfl rfl, ?_⟩ | refine ⟨_, buildPair rfl, ?_⟩ | refine ⟨.inl rfl, ?_⟩ | refine ⟨.inl (Ext.refl _), ?_⟩ | refine ⟨.inl plain_pr, ?_⟩ | refine ⟨.inl (plain_pr (a := _)), ?_⟩); ((conv => whnf); repeat ((first | refine CodeS.step ?_ | refine RegS.step ?_ | refine RegXS.step ?_); (conv => whnf))))
      refine ⟨_, rfl, fun _ => ?_, fun hc => ?_⟩
      · ((conv => whnf); repeat ((first | refine CodeS.step ?_ | refine RegS.step ?_ | refine RegXS.step ?_); (conv => whnf)))
        refine ⟨_, _, lives2_ok (hv.ext E6), ?_⟩; ((conv => whnf); repeat ((first | refine CodeS.step ?_ | refine RegS.step ?_ | refine RegXS.step ?_); (conv => whnf)))
        refine ⟨.inl (Ext.refl _), ?_⟩; ((conv => whnf); repeat ((first | refine CodeS.step ?_ | refine RegS.step ?_ | refine RegXS.step ?_); (conv => whnf)))
        exact ⟨rfl, E6⟩
      · exfalso
        have hc : (evalL k ((l.map fun q => (q.2, q.1)).map fun q => q.1) == evalL k (l.map fun q => q.2) && evalL k ((l.map fun q => (q.2, q.1)).map fun q => q.2) == evalL k (l.map fun q => q.1)) = false := hc
        simp [List.map_map, Function.comp_def] at hc
    · exfalso
      have hc : (evalL k (l.map fun q => q.1) == evalL k (l.map fun q => q.1) && evalL k (l.map fun q => q.2) == evalL k (l.map fun q => q.2)) = false := hc
      simp at hc

theorem pairsEval_call (h : Heap) (x : DenL [(.int .u8, false), (.slice shPair, false)]) (avs : List Value) (hv : Vars h) (r : RepL h [(.int .u8, false), (.slice shPair, false)] x avs) : CallD Tryd.prog NG 4 ⟨avs⟩ h (.bool true) h := by
  obtain ⟨x, y, z⟩ := x
  obtain ⟨_, _, rfl, w1, r1, _, _, rfl, w2, r2, rfl⟩ := r
  obtain ⟨rfl, h1⟩ := rep_u8 w1 r1
  obtain ⟨s2, h2⟩ := rep_pairs w2 r2
  obtain ⟨a, cap, rfl⟩ := s2.shape
  exact pairsEval_run hv h1.1 h1.2 s2 (fun q hq => ⟨(h2 q hq).1.1, (h2 q hq).2.1⟩)
end Go.Proofs.YtbfgncmnallhlaaDoor
