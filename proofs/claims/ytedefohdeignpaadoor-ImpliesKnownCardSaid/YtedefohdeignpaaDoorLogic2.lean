/-
  Contracts of the package 'logic' over slices of values, and of the library's searches in them.
-/
import Derived.Test.YtedefohdeignpaaDoorLogic
namespace Go.Proofs.YtedefohdeignpaaDoor
open Go.Abs
set_option maxRecDepth 100000

def vals (l : List Int) : List Value := l.map u8
def idxI : Option Nat → Int
  | some i => Int.ofNat i
  | none => -1

theorem drop_cons {α : Type} {l : List α} {i : Nat} (h : i < l.length) : l.drop i = l[i] :: l.drop (i + 1) := (List.getElem_cons_drop h).symm
theorem sl_len {h : Heap} {a : Option Addr} {n cap : Nat} {l : List Int} (hs : Sl h 1 (.slice a n cap) (vals l)) : n = l.length := by
  have := hs.len; simpa [vals] using this
theorem vals_get {l : List Int} {i : Nat} (h : i < l.length) : (vals l)[i]? = some (u8 l[i]) := by simp [vals, h]

theorem idx_found {l : List Int} {p : Int → Bool} {i : Nat} (hi : i < l.length) (hp : p l[i] = true) (hI : ∀ j (hj : j < l.length), j < i → p l[j] = false) : l.findIdx? p = some i := by
  rw [List.findIdx?_eq_some_iff_getElem]
  exact ⟨hi, hp, fun j hj => by rw [hI j (by omega) hj]; simp⟩
theorem idx_none {l : List Int} {p : Int → Bool} (hI : ∀ j (hj : j < l.length), j < l.length → p l[j] = false) : l.findIdx? p = none := by
  rw [List.findIdx?_eq_none_iff]
  intro x hx
  obtain ⟨j, hj, rfl⟩ := List.getElem_of_mem hx
  exact hI j hj hj
theorem idx_next {l : List Int} {p : Int → Bool} {i : Nat} (hi : i < l.length) (hp : p l[i] = false) (hI : ∀ j (hj : j < l.length), j < i → p l[j] = false) : ∀ j (hj : j < l.length), j < i + 1 → p l[j] = false := by
  intro j hj hlt
  by_cases e : j = i
  · subst e; exact hp
  · exact hI j hj (by omega)
theorem idxI_some (i : Nat) : ltI (idxI (some i)) 0 = false := by
  rw [ltI_eq]; exact decide_eq_false (show ¬ ((i : Int) < 0) by omega)
theorem idxI_neg {l : List Int} {p : Int → Bool} : (!ltI (idxI (l.findIdx? p)) 0) = l.any p := by
  cases e : l.findIdx? p with
  | none =>
    rw [List.findIdx?_eq_none_iff] at e
    symm
    rw [show (!ltI (idxI none) 0) = false from rfl, List.any_eq_false]
    intro x hx; rw [e x hx]; simp
  | some i =>
    rw [List.findIdx?_eq_some_iff_getElem] at e
    obtain ⟨h1, h2, _⟩ := e
    symm
    rw [idxI_some, Bool.not_false, List.any_eq_true]
    exact ⟨_, List.getElem_mem h1, h2⟩

variable {h : Heap} {a : Option Addr} {n cap : Nat} {l : List Int}

theorem indexFunc_ok (hs : Sl h 1 (.slice a n cap) (vals l)) (hl : ∀ x ∈ l, 0 ≤ x) (hn : l.length < 2 ^ 62) {f : FuncId} {p : Int → Bool} (hp : ∀ x, 0 ≤ x → CallD Tryd.prog NG f #[u8 x] h (.bool (p x)) h) :
    CallD Tryd.prog NG 54 #[.slice a n cap, .func (.func f) #[] #[]] h (.int .i64 (idxI (l.findIdx? p))) h := by
  obtain rfl := sl_len hs
  refine fnP hM Tryd.func54 rfl (hP _ _ rfl Tryd.func54) (Nat.le_of_ble_eq_true rfl) (by kernel_rfl) ?_; ((conv => whnf); repeat ((first | refine CodeS.step ?_ | refine RegS.step ?_ | refine RegXS.step ?_); (conv => whnf)))
  refine loopG (σ := Nat) (nn := 19) hM (by kernel_rfl) (fun i h1 => h1 = h ∧ i ≤ l.length ∧ ∀ j (hj : j < l.length), j < i → p l[j] = false)
    (fun i => [(0, .slice a l.length cap), (1, .func (.func f) #[] #[]), (7, .int .i64 (Int.ofNat l.length)), (8, .int .i64 (Int.ofNat i))]) (fun i => l.length - i) rfl
    ⟨0, ⟨rfl, Nat.zero_le _, fun j _ hj => by omega⟩, rfl, rfl, rfl, rfl, trivial⟩ ?_
  rintro i base h1 ⟨rfl, hi, hI⟩
  ((conv => whnf); repeat ((first | refine CodeS.step ?_ | refine RegS.step ?_ | refine RegXS.step ?_); (conv => whnf)))
  refine ⟨_, rfl, fun hc => ?_, fun hc => ?_⟩
  · replace hc := lt_of_ltI hc
    ((conv => whnf); repeat ((first | refine CodeS.step ?_ | refine RegS.step ?_ | refine RegXS.step ?_); (conv => whnf)))
    refine hs.indexK rfl rfl rfl rfl (j := i) (vals_get hc) fun g off cs ro hg he => ?_
    ((conv => whnf); repeat ((first | refine CodeS.step ?_ | refine RegS.step ?_ | refine RegXS.step ?_); (conv => whnf)))
    refine ⟨_, he.loadK hg (i := 0) rfl rfl rfl, ?_⟩
    ((conv => whnf); repeat ((first | refine CodeS.step ?_ | refine RegS.step ?_ | refine RegXS.step ?_); (conv => whnf)))
    refine ⟨_, _, hp _ (hl _ (List.getElem_mem hc)), ?_⟩
    ((conv => whnf); repeat ((first | refine CodeS.step ?_ | refine RegS.step ?_ | refine RegXS.step ?_); (conv => whnf)))
    refine ⟨_, rfl, fun hv => ?_, fun hv => ?_⟩
    · ((conv => whnf); repeat ((first | refine CodeS.step ?_ | refine RegS.step ?_ | refine RegXS.step ?_); (conv => whnf)))
      rw [idx_found hc hv hI]
      exact ⟨rfl, Ext.refl _⟩
    · ((conv => whnf); repeat ((first | refine CodeS.step ?_ | refine RegS.step ?_ | refine RegXS.step ?_); (conv => whnf)))
      refine ⟨_, addK (b := 1) rfl rfl (by omega), ?_⟩; ((conv => whnf); repeat ((first | refine CodeS.step ?_ | refine RegS.step ?_ | refine RegXS.step ?_); (conv => whnf)))
      exact ⟨i + 1, by omega, ⟨rfl, hc, idx_next hc hv hI⟩, rfl, rfl, rfl, rfl, trivial⟩
  · replace hc := ge_of_ltI hc
    obtain rfl : i = l.length := by omega
    ((conv => whnf); repeat ((first | refine CodeS.step ?_ | refine RegS.step ?_ | refine RegXS.step ?_); (conv => whnf)))
    rw [idx_none hI]
    exact ⟨rfl, Ext.refl _⟩

theorem index_ok (hs : Sl h 1 (.slice a n cap) (vals l)) (hn : l.length < 2 ^ 62) (x : Int) :
    CallD Tryd.prog NG 72 #[.slice a n cap, u8 x] h (.int .i64 (idxI (l.findIdx? fun y => x == y))) h := by
  obtain rfl := sl_len hs
  refine fnP hM Tryd.func72 rfl (hP _ _ rfl Tryd.func72) (Nat.le_of_ble_eq_true rfl) (by kernel_rfl) ?_; ((conv => whnf); repeat ((first | refine CodeS.step ?_ | refine RegS.step ?_ | refine RegXS.step ?_); (conv => whnf)))
  refine loopG (σ := Nat) (nn := 19) hM (by kernel_rfl) (fun i h1 => h1 = h ∧ i ≤ l.length ∧ ∀ j (hj : j < l.length), j < i → (fun y => x == y) l[j] = false)
    (fun i => [(0, .slice a l.length cap), (1, u8 x), (7, .int .i64 (Int.ofNat l.length)), (8, .int .i64 (Int.ofNat i))]) (fun i => l.length - i) rfl
    ⟨0, ⟨rfl, Nat.zero_le _, fun j _ hj => by omega⟩, rfl, rfl, rfl, rfl, trivial⟩ ?_
  rintro i base h1 ⟨rfl, hi, hI⟩
  ((conv => whnf); repeat ((first | refine CodeS.step ?_ | refine RegS.step ?_ | refine RegXS.step ?_); (conv => whnf)))
  refine ⟨_, rfl, fun hc => ?_, fun hc => ?_⟩
  · replace hc := lt_of_ltI hc
    ((conv => whnf); repeat ((first | refine CodeS.step ?_ | refine RegS.step ?_ | refine RegXS.step ?_); (conv => whnf)))
    refine hs.indexK rfl rfl rfl rfl (j := i) (vals_get hc) fun g off cs ro hg he => ?_
    ((conv => whnf); repeat ((first | refine CodeS.step ?_ | refine RegS.step ?_ | refine RegXS.step ?_); (conv => whnf)))
    refine ⟨_, he.loadK hg (i := 0) rfl rfl rfl, ?_⟩
    ((conv => whnf); repeat ((first | refine CodeS.step ?_ | refine RegS.step ?_ | refine RegXS.step ?_); (conv => whnf)))
    refine ⟨_, rfl, fun hv => ?_, fun hv => ?_⟩
    · ((conv => whnf); repeat ((first | refine CodeS.step ?_ | refine RegS.step ?_ | refine RegXS.step ?_); (conv => whnf)))
      rw [idx_found hc hv hI]
      exact ⟨rfl, Ext.refl _⟩
    · ((conv => whnf); repeat ((first | refine CodeS.step ?_ | refine RegS.step ?_ | refine RegXS.step ?_); (conv => whnf)))
      refine ⟨_, addK (b := 1) rfl rfl (by omega), ?_⟩; ((conv => whnf); repeat ((first | refine CodeS.step ?_ | refine RegS.step ?_ | refine RegXS.step ?_); (conv => whnf)))
      exact ⟨i + 1, by omega, ⟨rfl, hc, idx_next hc hv hI⟩, rfl, rfl, rfl, rfl, trivial⟩
  · replace hc := ge_of_ltI hc
    obtain rfl : i = l.length := by omega
    ((conv => whnf); repeat ((first | refine CodeS.step ?_ | refine RegS.step ?_ | refine RegXS.step ?_); (conv => whnf)))
    rw [idx_none hI]
    exact ⟨rfl, Ext.refl _⟩

theorem contains_ok (hs : Sl h 1 (.slice a n cap) (vals l)) (hn : l.length < 2 ^ 62) (x : Int) :
    CallD Tryd.prog NG 68 #[.slice a n cap, u8 x] h (.bool (l.any fun y => x == y)) h := by
  rw [← idxI_neg]
  refine fnP hM Tryd.func68 rfl (hP _ _ rfl Tryd.func68) (Nat.le_of_ble_eq_true rfl) (by kernel_rfl) ?_; ((conv => whnf); repeat ((first | refine CodeS.step ?_ | refine RegS.step ?_ | refine RegXS.step ?_); (conv => whnf)))
  refine ⟨_, _, index_ok hs hn x, ?_⟩
  ((conv => whnf); repeat ((first | refine CodeS.step ?_ | refine RegS.step ?_ | refine RegXS.step ?_); (conv => whnf)))
  exact ⟨rfl, Ext.refl _⟩

theorem containsFunc_ok (hs : Sl h 1 (.slice a n cap) (vals l)) (hl : ∀ x ∈ l, 0 ≤ x) (hn : l.length < 2 ^ 62) {f : FuncId} {p : Int → Bool} (hp : ∀ x, 0 ≤ x → CallD Tryd.prog NG f #[u8 x] h (.bool (p x)) h) :
    CallD Tryd.prog NG 45 #[.slice a n cap, .func (.func f) #[] #[]] h (.bool (l.any p)) h := by
  rw [← idxI_neg]
  refine fnP hM Tryd.func45 rfl (hP _ _ rfl Tryd.func45) (Nat.le_of_ble_eq_true rfl) (by kernel_rfl) ?_; ((conv => whnf); repeat ((first | refine CodeS.step ?_ | refine RegS.step ?_ | refine RegXS.step ?_); (conv => whnf)))
  refine ⟨_, _, indexFunc_ok hs hl hn hp, ?_⟩
  ((conv => whnf); repeat ((first | refine CodeS.step ?_ | refine RegS.step ?_ | refine RegXS.step ?_); (conv => whnf)))
  exact ⟨rfl, Ext.refl _⟩

def conflictL (l : List Int) : Bool := (l.any fun y => 0 == y) && (l.any fun y => 1 == y)

theorem conflict_ok (hs : Sl h 1 (.slice a n cap) (vals l)) (hn : l.length < 2 ^ 62) :
    CallD Tryd.prog NG 55 #[.slice a n cap] h (.bool (conflictL l)) h := by
  unfold conflictL
  refine fnP hM Tryd.func55 rfl (hP _ _ rfl Tryd.func55) (Nat.le_of_ble_eq_true rfl) (by kernel_rfl) ?_; ((conv => whnf); repeat ((first | refine CodeS.step ?_ | refine RegS.step ?_ | refine RegXS.step ?_); (conv => whnf)))
  refine ⟨_, _, contains_ok hs hn 0, ?_⟩
  ((conv => whnf); repeat ((first | refine CodeS.step ?_ | refine RegS.step ?_ | refine RegXS.step ?_); (conv => whnf)))
  refine ⟨_, rfl, fun hc => ?_, fun hc => ?_⟩
  · rw [hc]
    ((conv => whnf); repeat ((first | refine CodeS.step ?_ | refine RegS.step ?_ | refine RegXS.step ?_); (conv => whnf)))
    refine ⟨_, _, contains_ok hs hn 1, ?_⟩
    ((conv => whnf); repeat ((first | refine CodeS.step ?_ | refine RegS.step ?_ | refine RegXS.step ?_); (conv => whnf)))
    exact ⟨rfl, Ext.refl _⟩
  · rw [hc]
    ((conv => whnf); repeat ((first | refine CodeS.step ?_ | refine RegS.step ?_ | refine RegXS.step ?_); (conv => whnf)))
    exact ⟨rfl, Ext.refl _⟩

def busL (l : List Int) : Int :=
  match l.findIdx? fun v => v != 3 with
  | none => 3
  | some i => if (conflictL l || l.any fun v => cleanL v == 2) = true then 2 else l.getD i 0

theorem bus1_ok (x : Int) (hx : 0 ≤ x) : CallD Tryd.prog NG 52 #[u8 x] h (.bool (cleanL x == 2)) h := by
  refine fnP hM Tryd.func52 rfl (hP _ _ rfl Tryd.func52) (Nat.le_of_ble_eq_true rfl) (by kernel_rfl) ?_; ((conv => whnf); repeat ((first | refine CodeS.step ?_ | refine RegS.step ?_ | refine RegXS.step ?_); (conv => whnf)))
  refine ⟨_, _, clean_ok hx, ?_⟩
  ((conv => whnf); repeat ((first | refine CodeS.step ?_ | refine RegS.step ?_ | refine RegXS.step ?_); (conv => whnf)))
  exact ⟨rfl, Ext.refl _⟩
theorem bus2_ok (x : Int) (_ : 0 ≤ x) : CallD Tryd.prog NG 53 #[u8 x] h (.bool (x != 3)) h := by
  refine fnP hM Tryd.func53 rfl (hP _ _ rfl Tryd.func53) (Nat.le_of_ble_eq_true rfl) (by kernel_rfl) ?_; ((conv => whnf); repeat ((first | refine CodeS.step ?_ | refine RegS.step ?_ | refine RegXS.step ?_); (conv => whnf)))
  exact ⟨rfl, Ext.refl _⟩

theorem bus_ok (hs : Sl h 1 (.slice a n cap) (vals l)) (hl : ∀ x ∈ l, 0 ≤ x) (hn : l.length < 2 ^ 62) :
    CallD Tryd.prog NG 33 #[.slice a n cap] h (u8 (busL l)) h := by
  obtain rfl := sl_len hs
  unfold busL
  refine fnP hM Tryd.func33 rfl (hP _ _ rfl Tryd.func33) (Nat.le_of_ble_eq_true rfl) (by kernel_rfl) ?_; ((conv => whnf); repeat ((first | refine CodeS.step ?_ | refine RegS.step ?_ | refine RegXS.step ?_); (conv => whnf)))
  refine ⟨_, _, indexFunc_ok hs hl hn (p := fun v => v != 3) bus2_ok, ?_⟩
  ((conv => whnf); repeat ((first | refine CodeS.step ?_ | refine RegS.step ?_ | refine RegXS.step ?_); (conv => whnf)))
  cases e : l.findIdx? (fun v => v != 3) with
  | none =>
    ((conv => whnf); repeat ((first | refine CodeS.step ?_ | refine RegS.step ?_ | refine RegXS.step ?_); (conv => whnf)))
    refine ⟨true, rfl, fun _ => ?_, fun hc => by cases hc⟩
    ((conv => whnf); repeat ((first | refine CodeS.step ?_ | refine RegS.step ?_ | refine RegXS.step ?_); (conv => whnf)))
    exact ⟨rfl, Ext.refl _⟩
  | some i =>
    have hi : i < l.length := by
      rw [List.findIdx?_eq_some_iff_getElem] at e
      exact e.1
    ((conv => whnf); repeat ((first | refine CodeS.step ?_ | refine RegS.step ?_ | refine RegXS.step ?_); (conv => whnf)))
    refine ⟨_, rfl, fun hc => ?_, fun hc => ?_⟩
    · rw [idxI_some] at hc; cases hc
    ((conv => whnf); repeat ((first | refine CodeS.step ?_ | refine RegS.step ?_ | refine RegXS.step ?_); (conv => whnf)))
    refine ⟨_, _, conflict_ok hs hn, ?_⟩
    ((conv => whnf); repeat ((first | refine CodeS.step ?_ | refine RegS.step ?_ | refine RegXS.step ?_); (conv => whnf)))
    refine ⟨_, rfl, fun hc => ?_, fun hc => ?_⟩
    · rw [hc]
      ((conv => whnf); repeat ((first | refine CodeS.step ?_ | refine RegS.step ?_ | refine RegXS.step ?_); (conv => whnf)))
      refine ⟨true, rfl, fun _ => ?_, fun hc => by cases hc⟩
      ((conv => whnf); repeat ((first | refine CodeS.step ?_ | refine RegS.step ?_ | refine RegXS.step ?_); (conv => whnf)))
      exact ⟨rfl, Ext.refl _⟩
    rw [hc]
    ((conv => whnf); repeat ((first | refine CodeS.step ?_ | refine RegS.step ?_ | refine RegXS.step ?_); (conv => whnf)))
    refine ⟨_, _, containsFunc_ok hs hl hn (p := fun v => cleanL v == 2) bus1_ok, ?_⟩
    ((conv => whnf); repeat ((first | refine CodeS.step ?_ | refine RegS.step ?_ | refine RegXS.step ?_); (conv => whnf)))
    refine ⟨_, rfl, fun hc => ?_, fun hc => ?_⟩
    · rw [hc]
      ((conv => whnf); repeat ((first | refine CodeS.step ?_ | refine RegS.step ?_ | refine RegXS.step ?_); (conv => whnf)))
      exact ⟨rfl, Ext.refl _⟩
    rw [hc]
    ((conv => whnf); repeat ((first | refine CodeS.step ?_ | refine RegS.step ?_ | refine RegXS.step ?_); (conv => whnf)))
    refine hs.indexK rfl rfl rfl rfl (j := i) (vals_get hi) fun g off cs ro hg he => ?_
    ((conv => whnf); repeat ((first | refine CodeS.step ?_ | refine RegS.step ?_ | refine RegXS.step ?_); (conv => whnf)))
    refine ⟨_, he.loadK hg (i := 0) rfl rfl rfl, ?_⟩
    ((conv => whnf); repeat ((first | refine CodeS.step ?_ | refine RegS.step ?_ | refine RegXS.step ?_); (conv => whnf)))
    refine ⟨?_, Ext.refl _⟩
    show u8 l[i] = u8 (l.getD i 0)
    rw [List.getD_eq_getElem?_getD, List.getElem?_eq_getElem hi]
    rfl
end Go.Proofs.YtedefohdeignpaaDoor
