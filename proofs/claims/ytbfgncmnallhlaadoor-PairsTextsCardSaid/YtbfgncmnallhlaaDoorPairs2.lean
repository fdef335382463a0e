/-
  Contracts of the package 'pairs': lists of pairs.
-/
import Derived.Test.YtbfgncmnallhlaaDoorPairs
namespace Go.Proofs.YtbfgncmnallhlaaDoor
open Go.Abs
set_option maxRecDepth 100000

variable {h : Heap}

theorem side1_ok (a b : Int) : CallD Tryd.prog NG 43 #[pr a b] h (u8 a) h := by
  refine fnP hM Tryd.func43 rfl (hP _ _ rfl Tryd.func43) (Nat.le_of_ble_eq_true rfl) (by kernel_rfl) ?_; ((conv => whnf); repeat ((first | refine CodeS.step ?_ | refine RegS.step ?_ | refine RegXS.step ?_); (conv => whnf)))
  refine ⟨_, _, boxK rfl, fun h1 n1 => ?_⟩; ((conv => whnf); repeat ((first | refine CodeS.step ?_ | refine RegS.step ?_ | refine RegXS.step ?_); (conv => whnf)))
  refine ⟨_, loadK rfl n1.get rfl rfl, ?_⟩; ((conv => whnf); repeat ((first | refine CodeS.step ?_ | refine RegS.step ?_ | refine RegXS.step ?_); (conv => whnf)))
  exact ⟨rfl, n1.ext⟩
theorem side2_ok (a b : Int) : CallD Tryd.prog NG 44 #[pr a b] h (u8 b) h := by
  refine fnP hM Tryd.func44 rfl (hP _ _ rfl Tryd.func44) (Nat.le_of_ble_eq_true rfl) (by kernel_rfl) ?_; ((conv => whnf); repeat ((first | refine CodeS.step ?_ | refine RegS.step ?_ | refine RegXS.step ?_); (conv => whnf)))
  refine ⟨_, _, boxK rfl, fun h1 n1 => ?_⟩; ((conv => whnf); repeat ((first | refine CodeS.step ?_ | refine RegS.step ?_ | refine RegXS.step ?_); (conv => whnf)))
  refine ⟨_, loadK rfl n1.get rfl rfl, ?_⟩; ((conv => whnf); repeat ((first | refine CodeS.step ?_ | refine RegS.step ?_ | refine RegXS.step ?_); (conv => whnf)))
  exact ⟨rfl, n1.ext⟩

/-- Five of a pair. -/
def fiveL (a b : Int) : Int × Int :=
  if eqP (cleanL a) (cleanL b) 0 0 = true then (cleanL a, cleanL b)
  else if eqP (cleanL a) (cleanL b) 1 1 = true then (cleanL a, cleanL b)
  else if eqP (cleanL a) (cleanL b) 1 0 = true then (cleanL a, cleanL b)
  else if eqP (cleanL a) (cleanL b) 0 1 = true then (cleanL a, cleanL b)
  else (2, 2)

theorem five_ok {a b : Int} (ha : 0 ≤ a) (hb : 0 ≤ b) : CallD Tryd.prog NG 25 #[pr a b] h (pr (fiveL a b).1 (fiveL a b).2) h := by
  unfold fiveL
  refine fnP hM Tryd.func25 rfl (hP _ _ rfl Tryd.func25) (Nat.le_of_ble_eq_true rfl) (by kernel_rfl) ?_; ((conv => whnf); repeat ((first | refine CodeS.step ?_ | refine RegS.step ?_ | refine RegXS.step ?_); (conv => whnf)))
  refine ⟨_, _, boxK rfl, fun h1 n1 => ?_⟩; ((conv => whnf); repeat ((first | refine CodeS.step ?_ | refine RegS.step ?_ | refine RegXS.step ?_); (conv => whnf)))
  refine ⟨_, _, allocPair, fun h2 n2 => ?_⟩; ((conv => whnf); repeat ((first | refine CodeS.step ?_ | refine RegS.step ?_ | refine RegXS.step ?_); (conv => whnf)))
  have e1 := n2.keep n1.get
  have l1 := n1.size
  have E : Ext h h2 := n2.exts n1.ext
  refine ⟨_, loadAggK rfl e1 rfl rfl (Nat.le_of_ble_eq_true rfl) rfl, ?_⟩; ((conv => whnf); repeat ((first | refine CodeS.step ?_ | refine RegS.step ?_ | refine RegXS.step ?_); (conv => whnf)))
  refine ⟨_, _, pclean_ok ha hb, ?_⟩; ((conv => whnf); repeat ((first | refine CodeS.step ?_ | refine RegS.step ?_ | refine RegXS.step ?_); (conv => whnf)))
  refine storeK rfl e1 rfl rfl rfl (Nat.le_of_ble_eq_true rfl) rfl fun h3 u3 => ?_; ((conv => whnf); repeat ((first | refine CodeS.step ?_ | refine RegS.step ?_ | refine RegXS.step ?_); (conv => whnf)))
  have e1 : h3.get h.size = some (.cells [.int .u8 (cleanL a), .int .u8 (cleanL b)] false) := u3.get
  have e2 := u3.keep (k := h1.size) (by omega) n2.get
  replace E : Ext h h3 := u3.ext E (Nat.le_refl _)
  refine ⟨_, loadAggK rfl e1 rfl rfl (Nat.le_of_ble_eq_true rfl) rfl, ?_⟩; ((conv => whnf); repeat ((first | refine CodeS.step ?_ | refine RegS.step ?_ | refine RegXS.step ?_); (conv => whnf)))
  refine ⟨_, _, of_ok (a := 0) (by decide), ?_⟩; ((conv => whnf); repeat ((first | refine CodeS.step ?_ | refine RegS.step ?_ | refine RegXS.step ?_); (conv => whnf)))
  refine ⟨_, eqPair rfl rfl, ?_⟩; ((conv => whnf); repeat ((first | refine CodeS.step ?_ | refine RegS.step ?_ | refine RegXS.step ?_); (conv => whnf)))
  refine ⟨_, rfl, fun hc => ?_, fun hc => ?_⟩
  · have hc : eqP (cleanL a) (cleanL b) 0 0 = true := hc
    rw [if_pos hc]
    ((conv => whnf); repeat ((first | refine CodeS.step ?_ | refine RegS.step ?_ | refine RegXS.step ?_); (conv => whnf)))
    refine ⟨_, rfl, fun _ => ?_, (fun hx => nomatch (hx.symm.trans hc))⟩; ((conv => whnf); repeat ((first | refine CodeS.step ?_ | refine RegS.step ?_ | refine RegXS.step ?_); (conv => whnf)))
    refine ⟨_, loadAggK rfl e1 rfl rfl (Nat.le_of_ble_eq_true rfl) rfl, ?_⟩; ((conv => whnf); repeat ((first | refine CodeS.step ?_ | refine RegS.step ?_ | refine RegXS.step ?_); (conv => whnf)))
    refine storeK rfl e2 rfl rfl rfl (Nat.le_of_ble_eq_true rfl) rfl fun h4 u4 => ?_; ((conv => whnf); repeat ((first | refine CodeS.step ?_ | refine RegS.step ?_ | refine RegXS.step ?_); (conv => whnf)))
    refine ⟨_, resAggK rfl rfl u4.get rfl rfl (Nat.le_of_ble_eq_true rfl) rfl, ?_⟩; ((conv => whnf); repeat ((first | refine CodeS.step ?_ | refine RegS.step ?_ | refine RegXS.step ?_); (conv => whnf)))
    exact ⟨rfl, u4.ext E (by omega)⟩
  have hc : eqP (cleanL a) (cleanL b) 0 0 = false := hc
  rw [if_neg (by rw [hc]; simp)]
  ((conv => whnf); repeat ((first | refine CodeS.step ?_ | refine RegS.step ?_ | refine RegXS.step ?_); (conv => whnf)))
  refine ⟨_, _, of_ok (a := 1) (by decide), ?_⟩; ((conv => whnf); repeat ((first | refine CodeS.step ?_ | refine RegS.step ?_ | refine RegXS.step ?_); (conv => whnf)))
  refine ⟨_, eqPair rfl rfl, ?_⟩; ((conv => whnf); repeat ((first | refine CodeS.step ?_ | refine RegS.step ?_ | refine RegXS.step ?_); (conv => whnf)))
  refine ⟨_, rfl, fun hc => ?_, fun hc => ?_⟩
  · have hc : eqP (cleanL a) (cleanL b) 1 1 = true := hc
    rw [if_pos hc]
    ((conv => whnf); repeat ((first | refine CodeS.step ?_ | refine RegS.step ?_ | refine RegXS.step ?_); (conv => whnf)))
    refine ⟨_, rfl, fun _ => ?_, (fun hx => nomatch (hx.symm.trans hc))⟩; ((conv => whnf); repeat ((first | refine CodeS.step ?_ | refine RegS.step ?_ | refine RegXS.step ?_); (conv => whnf)))
    refine ⟨_, loadAggK rfl e1 rfl rfl (Nat.le_of_ble_eq_true rfl) rfl, ?_⟩; ((conv => whnf); repeat ((first | refine CodeS.step ?_ | refine RegS.step ?_ | refine RegXS.step ?_); (conv => whnf)))
    refine storeK rfl e2 rfl rfl rfl (Nat.le_of_ble_eq_true rfl) rfl fun h4 u4 => ?_; ((conv => whnf); repeat ((first | refine CodeS.step ?_ | refine RegS.step ?_ | refine RegXS.step ?_); (conv => whnf)))
    refine ⟨_, resAggK rfl rfl u4.get rfl rfl (Nat.le_of_ble_eq_true rfl) rfl, ?_⟩; ((conv => whnf); repeat ((first | refine CodeS.step ?_ | refine RegS.step ?_ | refine RegXS.step ?_); (conv => whnf)))
    exact ⟨rfl, u4.ext E (by omega)⟩
  have hc : eqP (cleanL a) (cleanL b) 1 1 = false := hc
  rw [if_neg (by rw [hc]; simp)]
  ((conv => whnf); repeat ((first | refine CodeS.step ?_ | refine RegS.step ?_ | refine RegXS.step ?_); (conv => whnf)))
  refine ⟨_, _, D_ok, ?_⟩; ((conv => whnf); repeat ((first | refine CodeS.step ?_ | refine RegS.step ?_ | refine RegXS.step ?_); (conv => whnf)))
  refine ⟨_, eqPair rfl rfl, ?_⟩; ((conv => whnf); repeat ((first | refine CodeS.step ?_ | refine RegS.step ?_ | refine RegXS.step ?_); (conv => whnf)))
  refine ⟨_, rfl, fun hc => ?_, fun hc => ?_⟩
  · have hc : eqP (cleanL a) (cleanL b) 1 0 = true := hc
    rw [if_pos hc]
    ((conv => whnf); repeat ((first | refine CodeS.step ?_ | refine RegS.step ?_ | refine RegXS.step ?_); (conv => whnf)))
    refine ⟨_, rfl, fun _ => ?_, (fun hx => nomatch (hx.symm.trans hc))⟩; ((conv => whnf); repeat ((first | refine CodeS.step ?_ | refine RegS.step ?_ | refine RegXS.step ?_); (conv => whnf)))
    refine ⟨_, loadAggK rfl e1 rfl rfl (Nat.le_of_ble_eq_true rfl) rfl, ?_⟩; ((conv => whnf); repeat ((first | refine CodeS.step ?_ | refine RegS.step ?_ | refine RegXS.step ?_); (conv => whnf)))
    refine storeK rfl e2 rfl rfl rfl (Nat.le_of_ble_eq_true rfl) rfl fun h4 u4 => ?_; ((conv => whnf); repeat ((first | refine CodeS.step ?_ | refine RegS.step ?_ | refine RegXS.step ?_); (conv => whnf)))
    refine ⟨_, resAggK rfl rfl u4.get rfl rfl (Nat.le_of_ble_eq_true rfl) rfl, ?_⟩; ((conv => whnf); repeat ((first | refine CodeS.step ?_ | refine RegS.step ?_ | refine RegXS.step ?_); (conv => whnf)))
    exact ⟨rfl, u4.ext E (by omega)⟩
  have hc : eqP (cleanL a) (cleanL b) 1 0 = false := hc
  rw [if_neg (by rw [hc]; simp)]
  ((conv => whnf); repeat ((first | refine CodeS.step ?_ | refine RegS.step ?_ | refine RegXS.step ?_); (conv => whnf)))
  refine ⟨_, _, B_ok, ?_⟩; ((conv => whnf); repeat ((first | refine CodeS.step ?_ | refine RegS.step ?_ | refine RegXS.step ?_); (conv => whnf)))
  refine ⟨_, eqPair rfl rfl, ?_⟩; ((conv => whnf); repeat ((first | refine CodeS.step ?_ | refine RegS.step ?_ | refine RegXS.step ?_); (conv => whnf)))
  refine ⟨_, rfl, fun hc => ?_, fun hc => ?_⟩
  · have hc : eqP (cleanL a) (cleanL b) 0 1 = true := hc
    rw [if_pos hc]
    ((conv => whnf); repeat ((first | refine CodeS.step ?_ | refine RegS.step ?_ | refine RegXS.step ?_); (conv => whnf)))
    refine ⟨_, loadAggK rfl e1 rfl rfl (Nat.le_of_ble_eq_true rfl) rfl, ?_⟩; ((conv => whnf); repeat ((first | refine CodeS.step ?_ | refine RegS.step ?_ | refine RegXS.step ?_); (conv => whnf)))
    refine storeK rfl e2 rfl rfl rfl (Nat.le_of_ble_eq_true rfl) rfl fun h4 u4 => ?_; ((conv => whnf); repeat ((first | refine CodeS.step ?_ | refine RegS.step ?_ | refine RegXS.step ?_); (conv => whnf)))
    refine ⟨_, resAggK rfl rfl u4.get rfl rfl (Nat.le_of_ble_eq_true rfl) rfl, ?_⟩; ((conv => whnf); repeat ((first | refine CodeS.step ?_ | refine RegS.step ?_ | refine RegXS.step ?_); (conv => whnf)))
    exact ⟨rfl, u4.ext E (by omega)⟩
  have hc : eqP (cleanL a) (cleanL b) 0 1 = false := hc
  rw [if_neg (by rw [hc]; simp)]
  ((conv => whnf); repeat ((first | refine CodeS.step ?_ | refine RegS.step ?_ | refine RegXS.step ?_); (conv => whnf)))
  refine ⟨_, _, of_ok (a := 2) (by decide), ?_⟩; ((conv => whnf); repeat ((first | refine CodeS.step ?_ | refine RegS.step ?_ | refine RegXS.step ?_); (conv => whnf)))
  refine storeK rfl e2 rfl rfl rfl (Nat.le_of_ble_eq_true rfl) rfl fun h4 u4 => ?_; ((conv => whnf); repeat ((first | refine CodeS.step ?_ | refine RegS.step ?_ | refine RegXS.step ?_); (conv => whnf)))
  refine ⟨_, resAggK rfl rfl u4.get rfl rfl (Nat.le_of_ble_eq_true rfl) rfl, ?_⟩; ((conv => whnf); repeat ((first | refine CodeS.step ?_ | refine RegS.step ?_ | refine RegXS.step ?_); (conv => whnf)))
  exact ⟨rfl, u4.ext E (by omega)⟩

/-! ### lists of pairs -/

def prs (l : List (Int × Int)) : List Value := l.map fun p => pr p.1 p.2
theorem prs_len {a : Option Addr} {n cap : Nat} {l : List (Int × Int)} (hs : Sl h 2 (.slice a n cap) (prs l)) : n = l.length := by
  have := hs.len; simpa [prs] using this
theorem prs_get {l : List (Int × Int)} {i : Nat} (h : i < l.length) : (prs l)[i]? = some (pr l[i].1 l[i].2) := by simp [prs, h]

theorem flatC_vals (l : List Int) : flatC (vals l) = vals l := by
  induction l with
  | nil => rfl
  | cons x l ih => simp only [vals, flatC, List.map_cons, List.flatMap_cons] at ih ⊢; rw [ih]; rfl

theorem splice_set (cs : List Value) (i : Nat) (v : Value) (h : i < cs.length) : splice cs i [v] = cs.set i v := by
  unfold splice
  rw [List.set_eq_take_append_cons_drop, if_pos h]
  simp

theorem vals_set (d : List Int) (x : Int) (n : Nat) (hn : d.length < n) : splice (vals d ++ List.replicate (n - d.length) (u8 0)) d.length [u8 x] = vals (d ++ [x]) ++ List.replicate (n - (d ++ [x]).length) (u8 0) := by
  have hd : (vals d).length = d.length := by simp [vals]
  rw [splice_set _ _ _ (by simp [hd]; omega), List.set_append_right _ _ (by omega), hd, Nat.sub_self]
  obtain ⟨m, hm⟩ : ∃ m, n - d.length = m + 1 := ⟨n - d.length - 1, by omega⟩
  rw [hm, List.replicate_succ, List.set_cons_zero]
  have : n - (d ++ [x]).length = m := by simp; omega
  rw [this]
  simp [vals]

theorem side_ok {a : Option Addr} {n cap : Nat} {l : List (Int × Int)} (hs : Sl h 2 (.slice a n cap) (prs l)) (hn : l.length < 2 ^ 40) {f : FuncId} {p : Int → Int → Int} (hp : ∀ x y h, CallD Tryd.prog NG f #[pr x y] h (u8 (p x y)) h) :
    ∃ h', CallD Tryd.prog NG 42 #[.slice a n cap, .func (.func f) #[] #[]] h (.slice (some ⟨h.size, 0, none⟩) n n) h' ∧ Ext h h' ∧ h'.get h.size = some (.cells (vals (l.map fun q => p q.1 q.2)) false) := by
  obtain rfl := prs_len hs
  have : ∃ v h', CallD Tryd.prog NG 42 #[.slice a l.length cap, .func (.func f) #[] #[]] h v h' ∧ v = .slice (some ⟨h.size, 0, none⟩) l.length l.length ∧ Ext h h' ∧ h'.get h.size = some (.cells (vals (l.map fun q => p q.1 q.2)) false) := by
    refine fnG hM Tryd.func42 rfl (hP _ _ rfl Tryd.func42) (Nat.le_of_ble_eq_true rfl) ?_; ((conv => whnf); repeat ((first | refine CodeS.step ?_ | refine RegS.step ?_ | refine RegXS.step ?_); (conv => whnf)))
    refine ⟨_, _, makeK (b := 1) rfl rfl rfl rfl rfl rfl rfl rfl (by omega) (by omega), fun h1 n1 => ?_⟩; ((conv => whnf); repeat ((first | refine CodeS.step ?_ | refine RegS.step ?_ | refine RegXS.step ?_); (conv => whnf)))
    refine loopG (σ := Nat) (nn := 26) hM (by kernel_rfl) (fun i h2 => i ≤ l.length ∧ Ext h h2 ∧ h2.get h.size = some (.cells (vals ((l.take i).map fun q => p q.1 q.2) ++ List.replicate (l.length - i) (u8 0)) false))
      (fun i => [(1, .func (.func f) #[] #[]), (5, .slice (some ⟨h.size, 0, none⟩) l.length l.length), (11, .slice a l.length cap), (12, .int .i64 (Int.ofNat l.length)), (13, .int .i64 (Int.ofNat i))]) (fun i => l.length - i) rfl
      ⟨0, ⟨Nat.zero_le _, n1.ext, n1.get⟩, rfl, rfl, rfl, rfl, rfl, trivial⟩ ?_
    rintro i base h2 ⟨hi, E, G⟩
    ((conv => whnf); repeat ((first | refine CodeS.step ?_ | refine RegS.step ?_ | refine RegXS.step ?_); (conv => whnf)))
    refine ⟨_, rfl, fun hc => ?_, fun hc => ?_⟩
    · replace hc := lt_of_ltI hc
      ((conv => whnf); repeat ((first | refine CodeS.step ?_ | refine RegS.step ?_ | refine RegXS.step ?_); (conv => whnf)))
      refine (hs.ext E).indexK rfl rfl rfl rfl (j := i) (prs_get hc) fun g off cs ro hg he => ?_
      ((conv => whnf); repeat ((first | refine CodeS.step ?_ | refine RegS.step ?_ | refine RegXS.step ?_); (conv => whnf)))
      refine ⟨_, he.loadAllK hg rfl rfl rfl rfl, ?_⟩; ((conv => whnf); repeat ((first | refine CodeS.step ?_ | refine RegS.step ?_ | refine RegXS.step ?_); (conv => whnf)))
      refine ⟨_, _, allocPair, fun h3 n3 => ?_⟩; ((conv => whnf); repeat ((first | refine CodeS.step ?_ | refine RegS.step ?_ | refine RegXS.step ?_); (conv => whnf)))
      refine storeK rfl n3.get rfl rfl rfl (Nat.le_of_ble_eq_true rfl) rfl fun h4 u4 => ?_; ((conv => whnf); repeat ((first | refine CodeS.step ?_ | refine RegS.step ?_ | refine RegXS.step ?_); (conv => whnf)))
      have E3 : Ext h h3 := n3.exts E
      have E4 : Ext h h4 := u4.ext E3 E.1
      have G4 := u4.keep (k := h.size) (by have := Heap.lt_of_get G; omega) (n3.keep G)
      refine ⟨_, loadAggK rfl u4.get rfl rfl (Nat.le_of_ble_eq_true rfl) rfl, ?_⟩; ((conv => whnf); repeat ((first | refine CodeS.step ?_ | refine RegS.step ?_ | refine RegXS.step ?_); (conv => whnf)))
      refine ⟨_, _, hp l[i].1 l[i].2 _, ?_⟩; ((conv => whnf); repeat ((first | refine CodeS.step ?_ | refine RegS.step ?_ | refine RegXS.step ?_); (conv => whnf)))
      refine indexK (s := 1) rfl rfl rfl rfl (j := i) hc ?_; ((conv => whnf); repeat ((first | refine CodeS.step ?_ | refine RegS.step ?_ | refine RegXS.step ?_); (conv => whnf)))
      refine storeK (n := 1) rfl G4 rfl rfl rfl (by simp [vals]; omega) rfl fun h5 u5 => ?_; ((conv => whnf); repeat ((first | refine CodeS.step ?_ | refine RegS.step ?_ | refine RegXS.step ?_); (conv => whnf)))
      refine ⟨_, addK (b := 1) rfl rfl (by omega), ?_⟩; ((conv => whnf); repeat ((first | refine CodeS.step ?_ | refine RegS.step ?_ | refine RegXS.step ?_); (conv => whnf)))
      refine ⟨i + 1, by omega, ⟨hc, u5.ext E4 (Nat.le_refl _), ?_⟩, rfl, rfl, rfl, rfl, rfl, trivial⟩
      have hlen : ((l.take i).map fun q => p q.1 q.2).length = i := by simp; omega
      have hv := vals_set ((l.take i).map fun q => p q.1 q.2) (p l[i].1 l[i].2) l.length (by rw [hlen]; exact hc)
      have ht : (l.take (i + 1)).map (fun q => p q.1 q.2) = (l.take i).map (fun q => p q.1 q.2) ++ [p l[i].1 l[i].2] := by
        rw [List.take_succ_eq_append_getElem hc, List.map_append]; rfl
      rw [← ht] at hv
      have hlen' : ((l.take (i + 1)).map fun q => p q.1 q.2).length = i + 1 := by simp; omega
      rw [hlen, hlen'] at hv
      rw [← hv]
      have := u5.get
      simp only [Nat.zero_add, Nat.mul_one] at this
      exact this
    · replace hc := ge_of_ltI hc
      ((conv => whnf); repeat ((first | refine CodeS.step ?_ | refine RegS.step ?_ | refine RegXS.step ?_); (conv => whnf)))
      obtain rfl : i = l.length := by omega
      refine ⟨rfl, E, ?_⟩
      rw [G]
      simp
  obtain ⟨v, h', c, rfl, q⟩ := this
  exact ⟨h', c, q⟩

/-- Evaluation of pairs. -/
def pevalL (k : Int) (l : List (Int × Int)) : Int × Int := (evalL k (l.map fun q => q.1), evalL k (l.map fun q => q.2))

theorem sl_vals {g n : Nat} {l : List Int} {ro : Bool} (hg : h.get g = some (.cells (vals l) ro)) (hn : n = l.length) : Sl h 1 (.slice (some ⟨g, 0, none⟩) n n) (vals l) := by
  subst hn
  refine Sl.of_flat hg ?_ (by simp [vals]) (by simp [vals]) (r := []) (by rw [flatC_vals]; simp)
  intro e he
  simp only [vals, List.mem_map] at he
  obtain ⟨x, _, rfl⟩ := he
  rfl

end Go.Proofs.YtbfgncmnallhlaaDoor
