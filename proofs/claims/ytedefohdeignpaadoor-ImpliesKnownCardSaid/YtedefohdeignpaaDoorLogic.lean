/-
  Contracts of the package 'logic': what each function computes, over any heap.
-/
import Derived.Test.YtedefohdeignpaaDoorBase
import Derived.Test.YtedefohdeignpaaDoorAbsX
namespace Go.Proofs.YtedefohdeignpaaDoor
open Go.Abs
set_option maxRecDepth 100000

def cls5 (n : Nat) : List Int := [0, 1, 2, 3, Int.ofNat (n + 4)]
theorem cls5_cases {a : Int} (h : 0 ≤ a) : a = 0 ∨ a = 1 ∨ a = 2 ∨ a = 3 ∨ ∃ n : Nat, a = Int.ofNat (n + 4) := by
  obtain ⟨m, rfl⟩ := Int.eq_ofNat_of_zero_le h
  match m with
  | 0 => exact .inl rfl
  | 1 => exact .inr (.inl rfl)
  | 2 => exact .inr (.inr (.inl rfl))
  | 3 => exact .inr (.inr (.inr (.inl rfl)))
  | n + 4 => exact .inr (.inr (.inr (.inr ⟨n, rfl⟩)))

def cleanL (a : Int) : Int := if 3 < a then 2 else a
def readL (a : Int) : Int := if 2 < a then 2 else a
def knownL (a : Int) : Bool := decide (a ≤ 1)
def belowL (a b : Int) : Bool := cleanL a == cleanL b || cleanL a == 2
def notL (a : Int) : Int := if a ≤ 1 then 1 - a else 2
def muxL (s a b : Int) : Int := if s = 0 then readL a else if s = 1 then readL b else if a = b then readL a else 2
def triL (e d : Int) : Int := if e = 0 then 3 else if e = 1 then readL d else 2

/-- The heap with nothing in it that may be read. -/
def bare : List AObj := List.replicate NG .dead
noncomputable def runAt (l : List AObj) (f : FuncId) (vs : Array Value) : Option Value := (runFn Tryd.prog [] (orcExt Tryd.prog) 60 f vs (heapOf l)).map (·.1)
theorem of_runAt {l : List AObj} {f : FuncId} {vs : Array Value} {v : Value} (e : runAt l f vs = some v) : ∃ h', CallD Tryd.prog NG f vs (heapOf l) v h' := by
  unfold runAt at e
  cases q : runFn Tryd.prog [] (orcExt Tryd.prog) 60 f vs (heapOf l) with
  | none => simp [q] at e
  | some r =>
    obtain ⟨v', h'⟩ := r
    simp [q] at e
    subst e
    exact ⟨h', (runFn_sound hM hP (fun f vs h v e => orcExt_sound f vs h v e) 60 _ _ _ _ _ q).1⟩

theorem bears_bare {h : Heap} (hs : NG ≤ h.size) : Bears NG (heapOf bare) h := by
  refine ⟨rfl, hs, fun g o e => .inl ?_⟩
  rw [heapOf_get] at e
  have := List.mem_of_getElem? e
  simp only [bare, List.mem_replicate] at this
  exact this.2

/-- A run that asks nothing of the memory. -/
theorem of_bare {f : FuncId} {vs : Array Value} {v : Value} {h : Heap} (e : runAt bare f vs = some v) (h1 : vs.all plain = true) (h2 : flatV v = true) : CallD Tryd.prog NG f vs h v h := by
  obtain ⟨h', c⟩ := of_runAt e
  exact CallD.sized fun hs => c.lift h1 h2 (bears_bare hs)

variable {h : Heap}

theorem clean_ok {a : Int} (ha : 0 ≤ a) : CallD Tryd.prog NG 50 #[u8 a] h (u8 (cleanL a)) h := by
  rcases cls5_cases ha with rfl | rfl | rfl | rfl | ⟨n, rfl⟩
  iterate 4 exact of_bare (by kernel_rfl) (by kernel_rfl) (by kernel_rfl)
  have : cleanL (Int.ofNat (n + 4)) = 2 := by unfold cleanL; rw [if_pos (by simp only [Int.ofNat_eq_natCast]; omega)]
  rw [this]
  exact of_bare (by kernel_rfl) (by kernel_rfl) (by kernel_rfl)
theorem read_ok {a : Int} (ha : 0 ≤ a) : CallD Tryd.prog NG 26 #[u8 a] h (u8 (readL a)) h := by
  rcases cls5_cases ha with rfl | rfl | rfl | rfl | ⟨n, rfl⟩
  iterate 4 exact of_bare (by kernel_rfl) (by kernel_rfl) (by kernel_rfl)
  have : readL (Int.ofNat (n + 4)) = 2 := by unfold readL; rw [if_pos (by simp only [Int.ofNat_eq_natCast]; omega)]
  rw [this]
  exact of_bare (by kernel_rfl) (by kernel_rfl) (by kernel_rfl)
theorem known_ok {a : Int} (ha : 0 ≤ a) : CallD Tryd.prog NG 40 #[u8 a] h (.bool (knownL a)) h := by
  rcases cls5_cases ha with rfl | rfl | rfl | rfl | ⟨n, rfl⟩
  iterate 4 exact of_bare (by kernel_rfl) (by kernel_rfl) (by kernel_rfl)
  have : knownL (Int.ofNat (n + 4)) = false := by unfold knownL; simp only [Int.ofNat_eq_natCast, decide_eq_false_iff_not]; omega
  rw [this]
  exact of_bare (by kernel_rfl) (by kernel_rfl) (by kernel_rfl)
theorem not_ok {a : Int} (ha : 0 ≤ a) : CallD Tryd.prog NG 27 #[u8 a] h (u8 (notL a)) h := by
  rcases cls5_cases ha with rfl | rfl | rfl | rfl | ⟨n, rfl⟩
  iterate 4 exact of_bare (by kernel_rfl) (by kernel_rfl) (by kernel_rfl)
  have : notL (Int.ofNat (n + 4)) = 2 := by unfold notL; rw [if_neg (by simp only [Int.ofNat_eq_natCast]; omega)]
  rw [this]
  exact of_bare (by kernel_rfl) (by kernel_rfl) (by kernel_rfl)

theorem cleanL_nonneg {a : Int} (ha : 0 ≤ a) : 0 ≤ cleanL a := by unfold cleanL; split <;> omega
theorem readL_nonneg {a : Int} (ha : 0 ≤ a) : 0 ≤ readL a := by unfold readL; split <;> omega
theorem notL_nonneg {a : Int} : 0 ≤ notL a := by unfold notL; split <;> omega


theorem mux_ok {s a b : Int} (ha : 0 ≤ a) (hb : 0 ≤ b) : CallD Tryd.prog NG 31 #[u8 s, u8 a, u8 b] h (u8 (muxL s a b)) h := by
  unfold muxL
  refine fnP hM Tryd.func31 rfl (hP _ _ rfl Tryd.func31) (Nat.le_of_ble_eq_true rfl) (by kernel_rfl) ?_; ((conv => whnf); repeat ((first | refine CodeS.step ?_ | refine RegS.step ?_ | refine RegXS.step ?_); (conv => whnf)))
  refine ⟨_, rfl, fun hc => ?_, fun hc => ?_⟩
  · rw [beq_iff_eq] at hc
    rw [if_pos hc]
    ((conv => whnf); repeat ((first | refine CodeS.step ?_ | refine RegS.step ?_ | refine RegXS.step ?_); (conv => whnf)))
    refine ⟨_, _, read_ok ha, ?_⟩
    ((conv => whnf); repeat ((first | refine CodeS.step ?_ | refine RegS.step ?_ | refine RegXS.step ?_); (conv => whnf)))
    exact ⟨rfl, Ext.refl _⟩
  rw [beq_eq_false_iff_ne] at hc
  rw [if_neg hc]
  ((conv => whnf); repeat ((first | refine CodeS.step ?_ | refine RegS.step ?_ | refine RegXS.step ?_); (conv => whnf)))
  refine ⟨_, rfl, fun hc => ?_, fun hc => ?_⟩
  · rw [beq_iff_eq] at hc
    rw [if_pos hc]
    ((conv => whnf); repeat ((first | refine CodeS.step ?_ | refine RegS.step ?_ | refine RegXS.step ?_); (conv => whnf)))
    refine ⟨_, _, read_ok hb, ?_⟩
    ((conv => whnf); repeat ((first | refine CodeS.step ?_ | refine RegS.step ?_ | refine RegXS.step ?_); (conv => whnf)))
    exact ⟨rfl, Ext.refl _⟩
  rw [beq_eq_false_iff_ne] at hc
  rw [if_neg hc]
  ((conv => whnf); repeat ((first | refine CodeS.step ?_ | refine RegS.step ?_ | refine RegXS.step ?_); (conv => whnf)))
  refine ⟨_, rfl, fun hc => ?_, fun hc => ?_⟩
  · rw [beq_iff_eq] at hc
    rw [if_pos hc]
    ((conv => whnf); repeat ((first | refine CodeS.step ?_ | refine RegS.step ?_ | refine RegXS.step ?_); (conv => whnf)))
    refine ⟨_, _, read_ok ha, ?_⟩
    ((conv => whnf); repeat ((first | refine CodeS.step ?_ | refine RegS.step ?_ | refine RegXS.step ?_); (conv => whnf)))
    exact ⟨rfl, Ext.refl _⟩
  rw [beq_eq_false_iff_ne] at hc
  rw [if_neg hc]
  ((conv => whnf); repeat ((first | refine CodeS.step ?_ | refine RegS.step ?_ | refine RegXS.step ?_); (conv => whnf)))
  exact ⟨rfl, Ext.refl _⟩

theorem tri_ok {e d : Int} (hd : 0 ≤ d) : CallD Tryd.prog NG 32 #[u8 e, u8 d] h (u8 (triL e d)) h := by
  unfold triL
  refine fnP hM Tryd.func32 rfl (hP _ _ rfl Tryd.func32) (Nat.le_of_ble_eq_true rfl) (by kernel_rfl) ?_; ((conv => whnf); repeat ((first | refine CodeS.step ?_ | refine RegS.step ?_ | refine RegXS.step ?_); (conv => whnf)))
  refine ⟨_, rfl, fun hc => ?_, fun hc => ?_⟩
  · rw [beq_iff_eq] at hc
    rw [if_pos hc]
    ((conv => whnf); repeat ((first | refine CodeS.step ?_ | refine RegS.step ?_ | refine RegXS.step ?_); (conv => whnf)))
    exact ⟨rfl, Ext.refl _⟩
  rw [beq_eq_false_iff_ne] at hc
  rw [if_neg hc]
  ((conv => whnf); repeat ((first | refine CodeS.step ?_ | refine RegS.step ?_ | refine RegXS.step ?_); (conv => whnf)))
  refine ⟨_, rfl, fun hc => ?_, fun hc => ?_⟩
  · rw [beq_iff_eq] at hc
    rw [if_pos hc]
    ((conv => whnf); repeat ((first | refine CodeS.step ?_ | refine RegS.step ?_ | refine RegXS.step ?_); (conv => whnf)))
    refine ⟨_, _, read_ok hd, ?_⟩
    ((conv => whnf); repeat ((first | refine CodeS.step ?_ | refine RegS.step ?_ | refine RegXS.step ?_); (conv => whnf)))
    exact ⟨rfl, Ext.refl _⟩
  rw [beq_eq_false_iff_ne] at hc
  rw [if_neg hc]
  ((conv => whnf); repeat ((first | refine CodeS.step ?_ | refine RegS.step ?_ | refine RegXS.step ?_); (conv => whnf)))
  exact ⟨rfl, Ext.refl _⟩
end Go.Proofs.YtedefohdeignpaaDoor
