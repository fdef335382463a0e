/-
  The law PairsMonotone: its walk.
-/
import Derived.Test.YtbfgncmnallhlaaDoorPairsEval
import Derived.Test.YtbfgncmnallhlaaDoorMono
namespace Go.Proofs.YtbfgncmnallhlaaDoor
open Go.Abs
set_option maxRecDepth 100000

/-- A pair whose unknown values are replaced. -/
def more1 (a o : Int) : Int := if cleanL a = 2 then o else cleanL a
def moreP (q o : Int × Int) : Int × Int := (more1 q.1 o.1, more1 q.2 o.2)
def mores (l o : List (Int × Int)) (i : Nat) : List (Int × Int) := (l.zipWith moreP o).take i

theorem more_below (a o : Int) : Below a (more1 a o) := by
  unfold more1
  split
  · exact .bot ‹_›
  · exact .inl (clean_idem a).symm
theorem more_nonneg {a o : Int} (ha : 0 ≤ a) (ho : 0 ≤ o) : 0 ≤ more1 a o := by
  unfold more1
  split
  · exact ho
  · exact cleanL_nonneg ha

theorem mores_next {l o : List (Int × Int)} {i : Nat} (h1 : i < l.length) (h2 : i < o.length) : prs (mores l o i) ++ [pr (more1 l[i].1 o[i].1) (more1 l[i].2 o[i].2)] = prs (mores l o (i + 1)) := by
  unfold mores
  rw [List.take_succ_eq_append_getElem (by simp; omega)]
  simp [prs, moreP]
theorem mores_len {l o : List (Int × Int)} {i : Nat} (h1 : i ≤ l.length) (h2 : l.length ≤ o.length) : (prs (mores l o i)).length = i := by simp [prs, mores]; omega

theorem pairsMonotone_run {h : Heap} (hv : Vars h) {k : Int} (hk : 0 ≤ k) (hk2 : k < 256) {a b : Option Addr} {n cap n' cap' : Nat} {l o : List (Int × Int)} (hs : Sl h 2 (.slice a n cap) (prs l)) (hl : ∀ q ∈ l, 0 ≤ q.1 ∧ 0 ≤ q.2)
    (hs' : Sl h 2 (.slice b n' cap') (prs o)) (ho : ∀ q ∈ o, 0 ≤ q.1 ∧ 0 ≤ q.2) :
    CallD Tryd.prog NG 7 #[u8 k, .slice a n cap, .slice b n' cap'] h (.bool true) h := by
  obtain rfl := prs_len hs
  obtain rfl := prs_len hs'
  refine fnP hM Tryd.func7 rfl (hP _ _ rfl Tryd.func7) (Nat.le_of_ble_eq_true rfl) (by kernel_rfl) ?_; ((conv => whnf); repeat ((first | refine CodeS.step ?_ | refine RegS.step ?_ | refine RegXS.step ?_); (conv => whnf)))
  refine ⟨_, rfl, fun hc => ?_, fun hc => ?_⟩
  · ((conv => whnf); repeat ((first | refine CodeS.step ?_ | refine RegS.step ?_ | refine RegXS.step ?_); (conv => whnf)))
    refine ⟨true, rfl, fun _ => ?_, (fun hc => nomatch hc)⟩; ((conv => whnf); repeat ((first | refine CodeS.step ?_ | refine RegS.step ?_ | refine RegXS.step ?_); (conv => whnf)))
    refine ⟨_, _, lives2_ok hv, ?_⟩; ((conv => whnf); repeat ((first | refine CodeS.step ?_ | refine RegS.step ?_ | refine RegXS.step ?_); (conv => whnf)))
    exact ⟨rfl, Ext.refl _⟩
  have hn : l.length ≤ 16 := ge_of_ltI (a := 16) hc
  clear hc
  ((conv => whnf); repeat ((first | refine CodeS.step ?_ | refine RegS.step ?_ | refine RegXS.step ?_); (conv => whnf)))
  refine ⟨_, rfl, fun hc => ?_, fun hc => ?_⟩
  · ((conv => whnf); repeat ((first | refine CodeS.step ?_ | refine RegS.step ?_ | refine RegXS.step ?_); (conv => whnf)))
    refine ⟨_, _, lives2_ok hv, ?_⟩; ((conv => whnf); repeat ((first | refine CodeS.step ?_ | refine RegS.step ?_ | refine RegXS.step ?_); (conv => whnf)))
    exact ⟨rfl, Ext.refl _⟩
  have hlo : l.length ≤ o.length := ge_of_ltI hc
  clear hc
  ((conv => whnf); repeat ((first | refine CodeS.step ?_ | refine RegS.step ?_ | refine RegXS.step ?_); (conv => whnf)))
  refine loopG (σ := Nat × Option Nat) (nn := 71) hM (by kernel_rfl)
    (fun (i, a7) h2 => i ≤ l.length ∧ Ext h h2 ∧ Grow h2 2 a7 (prs (mores l o i)) ∧ ∀ g, a7 = some g → h.size ≤ g)
    (fun (i, a7) => [(0, u8 k), (1, .slice a l.length cap), (2, .slice b o.length cap'), (7, growV 2 a7 (prs (mores l o i))), (8, .int .i64 (Int.ofNat i))]) (fun (i, _) => l.length - i) rfl
    ⟨(0, none), ⟨Nat.zero_le _, Ext.refl _, Grow.start _ _, by simp⟩, rfl, rfl, rfl, rfl, rfl, trivial⟩ ?_
  rintro ⟨i, a7⟩ base h2 ⟨hi, E, G7, F7⟩
  have L7 := mores_len (o := o) hi hlo
  ((conv => whnf); repeat ((first | refine CodeS.step ?_ | refine RegS.step ?_ | refine RegXS.step ?_); (conv => whnf)))
  refine ⟨_, rfl, fun hc => ?_, fun hc => ?_⟩
  · replace hc := lt_of_ltI hc
    have hi' := hc
    have hc' : i < o.length := by omega
    have hq := hl _ (List.getElem_mem hc)
    have ho' := ho _ (List.getElem_mem hc')
    ((conv => whnf); repeat ((first | refine CodeS.step ?_ | refine RegS.step ?_ | refine RegXS.step ?_); (conv => whnf)))
    refine (hs.ext E).indexK rfl rfl rfl rfl (j := i) (prs_get hc) fun g off cs ro hg he => ?_; ((conv => whnf); repeat ((first | refine CodeS.step ?_ | refine RegS.step ?_ | refine RegXS.step ?_); (conv => whnf)))
    refine ⟨_, he.loadAllK hg rfl rfl rfl rfl, ?_⟩; ((conv => whnf); repeat ((first | refine CodeS.step ?_ | refine RegS.step ?_ | refine RegXS.step ?_); (conv => whnf)))
    refine ⟨_, _, lclean_ok hq.1 hq.2, ?_⟩; ((conv => whnf); repeat ((first | refine CodeS.step ?_ | refine RegS.step ?_ | refine RegXS.step ?_); (conv => whnf)))
    refine ⟨_, _, allocPair, fun h3 n3 => ?_⟩; ((conv => whnf); repeat ((first | refine CodeS.step ?_ | refine RegS.step ?_ | refine RegXS.step ?_); (conv => whnf)))
    refine storeK rfl n3.get rfl rfl rfl (Nat.le_of_ble_eq_true rfl) rfl fun h4 u4 => ?_; ((conv => whnf); repeat ((first | refine RegS.step ?_ | refine RegXS.step ?_); (conv => whnf)))
    have X1 := E.1
    have S3 := n3.size
    have E4 : Ext h h4 := u4.ext (n3.exts E) X1
    have e4 : h4.get h2.size = some (.cells [.int .u8 (cleanL l[i].1), .int .u8 (cleanL l[i].2)] false) := u4.get
    have B7 : ∀ x, a7 = some x → x < h2.size := fun x ex => Heap.lt_of_get (G7.get x ex)
    have G4 : Grow h4 2 a7 (prs (mores l o i)) := (G7.ext n3.ext).keep fun x ex _ => u4.other x (by have := B7 x ex; omega)
    have beq2 : ∀ x : Int, (x == 2) = true → x = 2 := fun x h => by simpa using h
    have bne2 : ∀ x : Int, (x == 2) = false → ¬ x = 2 := fun x h => by simpa using h
    refine CodeS.join (nn := 71) (fun h' => Ext h h' ∧ Grow h' 2 a7 (prs (mores l o i)) ∧ h'.get h2.size = some (.cells [.int .u8 (more1 l[i].1 o[i].1), .int .u8 (cleanL l[i].2)] false))
      [(0, u8 k), (1, .slice a l.length cap), (2, .slice b o.length cap'), (7, growV 2 a7 (prs (mores l o i))), (8, .int .i64 (Int.ofNat i)), (9, .pointer (some ⟨h2.size, 0, none⟩))] rfl ?_ ?_
    · ((conv => whnf); repeat ((first | refine CodeS.step ?_ | refine RegS.step ?_ | refine RegXS.step ?_); (conv => whnf)))
      refine ⟨_, loadK rfl e4 rfl rfl, ?_⟩; ((conv => whnf); repeat ((first | refine CodeS.step ?_ | refine RegS.step ?_ | refine RegXS.step ?_); (conv => whnf)))
      refine ⟨_, rfl, fun hc => ?_, fun hc => ?_⟩
      · ((conv => whnf); repeat ((first | refine CodeS.step ?_ | refine RegS.step ?_ | refine RegXS.step ?_); (conv => whnf)))
        refine (hs'.ext E4).indexK rfl rfl rfl rfl (j := i) (prs_get hc') fun g off cs ro hg he => ?_; ((conv => whnf); repeat ((first | refine CodeS.step ?_ | refine RegS.step ?_ | refine RegXS.step ?_); (conv => whnf)))
        refine ⟨_, he.loadK hg (i := 0) rfl rfl rfl, ?_⟩; ((conv => whnf); repeat ((first | refine CodeS.step ?_ | refine RegS.step ?_ | refine RegXS.step ?_); (conv => whnf)))
        refine storeK rfl e4 rfl rfl rfl (Nat.le_of_ble_eq_true rfl) rfl fun h5 u5 => ?_; ((conv => whnf); repeat ((first | refine CodeS.step ?_ | refine RegS.step ?_ | refine RegXS.step ?_); (conv => whnf)))
        refine ⟨⟨u5.ext E4 X1, G4.keep fun x ex _ => u5.other x (by have := B7 x ex; omega), ?_⟩, rfl, rfl, rfl, rfl, rfl, rfl, trivial⟩
        unfold more1
        rw [if_pos (beq2 _ ‹_›)]
        exact u5.get
      · ((conv => whnf); repeat ((first | refine CodeS.step ?_ | refine RegS.step ?_ | refine RegXS.step ?_); (conv => whnf)))
        refine ⟨⟨E4, G4, ?_⟩, rfl, rfl, rfl, rfl, rfl, rfl, trivial⟩
        unfold more1
        rw [if_neg (bne2 _ ‹_›)]
        exact e4
    rintro base h5 ⟨E5, G5, e5⟩
    (conv => whnf)
    refine CodeS.join (nn := 71) (fun h' => Ext h h' ∧ Grow h' 2 a7 (prs (mores l o i)) ∧ h'.get h2.size = some (.cells [.int .u8 (more1 l[i].1 o[i].1), .int .u8 (more1 l[i].2 o[i].2)] false))
      [(0, u8 k), (1, .slice a l.length cap), (2, .slice b o.length cap'), (7, growV 2 a7 (prs (mores l o i))), (8, .int .i64 (Int.ofNat i)), (9, .pointer (some ⟨h2.size, 0, none⟩))] rfl ?_ ?_
    · ((conv => whnf); repeat ((first | refine CodeS.step ?_ | refine RegS.step ?_ | refine RegXS.step ?_); (conv => whnf)))
      refine ⟨_, loadK rfl e5 rfl rfl, ?_⟩; ((conv => whnf); repeat ((first | refine CodeS.step ?_ | refine RegS.step ?_ | refine RegXS.step ?_); (conv => whnf)))
      refine ⟨_, rfl, fun hc => ?_, fun hc => ?_⟩
      · ((conv => whnf); repeat ((first | refine CodeS.step ?_ | refine RegS.step ?_ | refine RegXS.step ?_); (conv => whnf)))
        refine (hs'.ext E5).indexK rfl rfl rfl rfl (j := i) (prs_get hc') fun g off cs ro hg he => ?_; ((conv => whnf); repeat ((first | refine CodeS.step ?_ | refine RegS.step ?_ | refine RegXS.step ?_); (conv => whnf)))
        refine ⟨_, he.loadK hg (i := 1) rfl rfl rfl, ?_⟩; ((conv => whnf); repeat ((first | refine CodeS.step ?_ | refine RegS.step ?_ | refine RegXS.step ?_); (conv => whnf)))
        refine storeK rfl e5 rfl rfl rfl (Nat.le_of_ble_eq_true rfl) rfl fun h6 u6 => ?_; ((conv => whnf); repeat ((first | refine CodeS.step ?_ | refine RegS.step ?_ | refine RegXS.step ?_); (conv => whnf)))
        refine ⟨⟨u6.ext E5 X1, G5.keep fun x ex _ => u6.other x (by have := B7 x ex; omega), ?_⟩, rfl, rfl, rfl, rfl, rfl, rfl, trivial⟩
        rw [show more1 l[i].2 o[i].2 = o[i].2 by unfold more1; rw [if_pos (beq2 _ ‹_›)]]
        exact u6.get
      · ((conv => whnf); repeat ((first | refine CodeS.step ?_ | refine RegS.step ?_ | refine RegXS.step ?_); (conv => whnf)))
        refine ⟨⟨E5, G5, ?_⟩, rfl, rfl, rfl, rfl, rfl, rfl, trivial⟩
        rw [show more1 l[i].2 o[i].2 = cleanL l[i].2 by unfold more1; rw [if_neg (bne2 _ ‹_›)]]
        exact e5
    rintro base h6 ⟨E6, G6, e6⟩
    ((conv => whnf); repeat ((first | refine CodeS.step ?_ | refine RegS.step ?_ | refine RegXS.step ?_); (conv => whnf)))
    refine (hs.ext E6).indexK rfl rfl rfl rfl (j := i) (prs_get hc) fun g off cs ro hg he => ?_; ((conv => whnf); repeat ((first | refine CodeS.step ?_ | refine RegS.step ?_ | refine RegXS.step ?_); (conv => whnf)))
    refine ⟨_, he.loadAllK hg rfl rfl rfl rfl, ?_⟩; ((conv => whnf); repeat ((first | refine CodeS.step ?_ | refine RegS.step ?_ | refine RegXS.step ?_); (conv => whnf)))
    refine ⟨.inl (by kernel_rfl), ?_⟩; ((conv => whnf); repeat ((first | refine CodeS.step ?_ | refine RegS.step ?_ | refine RegXS.step ?_); (conv => whnf)))
    refine ⟨_, loadAggK rfl e6 rfl rfl (Nat.le_of_ble_eq_true rfl) rfl, ?_⟩; ((conv => whnf); repeat ((first | refine CodeS.step ?_ | refine RegS.step ?_ | refine RegXS.step ?_); (conv => whnf)))
    refine ⟨.inl (by kernel_rfl), ?_⟩; ((conv => whnf); repeat ((first | refine CodeS.step ?_ | refine RegS.step ?_ | refine RegXS.step ?_); (conv => whnf)))
    refine ⟨_, _, pbelow_ok hq.1 hq.2 (more_nonneg hq.1 ho'.1) (more_nonneg hq.2 ho'.2), ?_⟩; ((conv => whnf); repeat ((first | refine CodeS.step ?_ | refine RegS.step ?_ | refine RegXS.step ?_); (conv => whnf)))
    refine ⟨.inl (Ext.refl _), ?_⟩; ((conv => whnf); repeat ((first | refine CodeS.step ?_ | refine RegS.step ?_ | refine RegXS.step ?_); (conv => whnf)))
    refine ⟨_, rfl, fun hc => ?_, fun hc => ?_⟩
    · exfalso
      have : pbelowL l[i].1 l[i].2 (more1 l[i].1 o[i].1) (more1 l[i].2 o[i].2) = true := pbelow_iff.2 ⟨more_below _ _, more_below _ _⟩
      simp [this] at *
    · ((conv => whnf); repeat ((first | refine CodeS.step ?_ | refine RegS.step ?_ | refine RegXS.step ?_); (conv => whnf)))
      refine ⟨_, loadAggK rfl e6 rfl rfl (Nat.le_of_ble_eq_true rfl) rfl, ?_⟩; ((conv => whnf); repeat ((first | refine CodeS.step ?_ | refine RegS.step ?_ | refine RegXS.step ?_); (conv => whnf)))
      refine ⟨_, _, buildK (vs := [pr (more1 l[i].1 o[i].1) (more1 l[i].2 o[i].2)]) (s := 2) rfl rfl zeroPair plainsPair rfl rfl rfl rfl (one_mem rfl), fun h7 n7 => ?_⟩; ((conv => whnf); repeat ((first | refine CodeS.step ?_ | refine RegS.step ?_ | refine RegXS.step ?_); (conv => whnf)))
      refine growK (b := 2) (new := [pr (more1 l[i].1 o[i].1) (more1 l[i].2 o[i].2)]) (G6.ext n7.ext) rfl rfl rfl rfl rfl zeroPair rfl rfl rfl n7.get rfl (by omega) (one_mem rfl) rfl (by omega) (by omega) fun h8 g8 Q8 => ?_; ((conv => whnf); repeat ((first | refine CodeS.step ?_ | refine RegS.step ?_ | refine RegXS.step ?_); (conv => whnf)))
      refine ⟨_, addK (b := 1) rfl rfl (by omega), ?_⟩; ((conv => whnf); repeat ((first | refine CodeS.step ?_ | refine RegS.step ?_ | refine RegXS.step ?_); (conv => whnf)))
      have G8 := Q8.grow
      have C8 := Q8.fresh
      have S7 := n7.size
      have X6 := E6.1
      rw [mores_next hi' hc'] at G8
      exact ⟨(i + 1, some g8), by simp only; omega, ⟨hi', Q8.ext (n7.exts E6) F7, G8, fun x e => by cases e; omega⟩, rfl, rfl, rfl, growV_congr (mores_next hi' hc'), rfl, trivial⟩
  · replace hc := ge_of_ltI hc
    obtain rfl : i = l.length := by omega
    have T7 : mores l o l.length = l.zipWith moreP o := by unfold mores; exact List.take_of_length_le (by simp; omega)
    have G7s : Sl h2 2 (growV 2 a7 (prs (mores l o l.length))) (prs (mores l o l.length)) := G7.sl
    have mem : ∀ q ∈ mores l o l.length, 0 ≤ q.1 ∧ 0 ≤ q.2 := by
      intro q hq
      rw [T7] at hq
      obtain ⟨j, hj⟩ := List.getElem?_of_mem hq
      rw [List.getElem?_zipWith_eq_some] at hj
      obtain ⟨x, y, hx, hy, rfl⟩ := hj
      have h1 := hl x (List.mem_of_getElem? hx)
      have h2 := ho y (List.mem_of_getElem? hy)
      exact ⟨more_nonneg h1.1 h2.1, more_nonneg h1.2 h2.2⟩
    have all : All2 PBelow l (mores l o l.length) := by
      rw [T7]
      refine All2.of_get (by simp; omega) fun j x y hx hy => ?_
      rw [List.getElem?_zipWith_eq_some] at hy
      obtain ⟨x', y', hx', hy', rfl⟩ := hy
      rw [hx] at hx'
      cases hx'
      exact ⟨more_below _ _, more_below _ _⟩
    have hlen : (mores l o l.length).length < 2 ^ 40 := by rw [T7]; simp; omega
    have fin := peval_mono k all hl
    have nn1 := pevalL_nonneg k hl
    have nn2 := pevalL_nonneg k mem
    ((conv => whnf); repeat ((first | refine CodeS.step ?_ | refine RegS.step ?_ | refine RegXS.step ?_); (conv => whnf)))
    refine ⟨_, _, peval_ok hk hk2 (hv.ext E) (hs.ext E) hl (by omega), ?_⟩; ((conv => whnf); repeat ((first | refine CodeS.step ?_ | refine RegS.step ?_ | refine RegXS.step ?_); (conv => whnf)))
    refine ⟨_, _, peval_ok hk hk2 (hv.ext E) G7s mem hlen, ?_⟩; ((conv => whnf); repeat ((first | refine CodeS.step ?_ | refine RegS.step ?_ | refine RegXS.step ?_); (conv => whnf)))
    refine ⟨_, _, pbelow_ok nn1.1 nn1.2 nn2.1 nn2.2, ?_⟩; ((conv => whnf); repeat ((first | refine CodeS.step ?_ | refine RegS.step ?_ | refine RegXS.step ?_); (conv => whnf)))
    have fin' : pbelowL (pevalL k l).1 (pevalL k l).2 (pevalL k (mores l o l.length)).1 (pevalL k (mores l o l.length)).2 = true := pbelow_iff.2 fin
    refine ⟨_, rfl, fun _ => ?_, (fun hx => nomatch (hx.symm.trans fin'))⟩; ((conv => whnf); repeat ((first | refine CodeS.step ?_ | refine RegS.step ?_ | refine RegXS.step ?_); (conv => whnf)))
    refine ⟨_, _, lives2_ok (hv.ext E), ?_⟩; ((conv => whnf); repeat ((first | refine CodeS.step ?_ | refine RegS.step ?_ | refine RegXS.step ?_); (conv => whnf)))
    exact ⟨rfl, E⟩

theorem pairsMonotone_call (h : Heap) (x : DenL [(.int .u8, false), (.slice shPair, false), (.slice shPair, false)]) (avs : List Value) (hv : Vars h) (r : RepL h [(.int .u8, false), (.slice shPair, false), (.slice shPair, false)] x avs) : CallD Tryd.prog NG 7 ⟨avs⟩ h (.bool true) h := by
  obtain ⟨x, y, z, _⟩ := x
  obtain ⟨_, _, rfl, w1, r1, _, _, rfl, w2, r2, _, _, rfl, w3, r3, rfl⟩ := r
  obtain ⟨rfl, h1⟩ := rep_u8 w1 r1
  obtain ⟨s2, h2⟩ := rep_pairs w2 r2
  obtain ⟨s3, h3⟩ := rep_pairs w3 r3
  obtain ⟨a, cap, rfl⟩ := s2.shape
  obtain ⟨a', cap', rfl⟩ := s3.shape
  exact pairsMonotone_run hv h1.1 h1.2 s2 (fun q hq => ⟨(h2 q hq).1.1, (h2 q hq).2.1⟩) s3 (fun q hq => ⟨(h3 q hq).1.1, (h3 q hq).2.1⟩)
end Go.Proofs.YtbfgncmnallhlaaDoor
