/-
  Contracts of the package 'logic': gates.
-/
import Derived.Test.YtedefohdeignpaaDoorLogic2
namespace Go.Proofs.YtedefohdeignpaaDoor
open Go.Abs
set_option maxRecDepth 100000

/-! ### the variables -/

def Vars (h : Heap) : Prop := h.get 0 = some (.cells fanins true)
theorem Vars.ext {h h1 : Heap} (v : Vars h) (e : Ext h h1) : Vars h1 := e.get v
theorem vars_get {g : Nat} {o : AObj} (e : vars[g]? = some o) : o = .dead ∨ (g = 0 ∧ o = .cells fanins true) := by
  match g, e with
  | 0, e => simp only [vars, List.getElem?_cons_zero, Option.some.injEq] at e; exact .inr ⟨rfl, e.symm⟩
  | 1, e => simp only [vars, List.getElem?_cons_succ, List.getElem?_cons_zero, Option.some.injEq] at e; exact .inl e.symm
theorem bears_vars {h : Heap} (hs : NG ≤ h.size) (v : Vars h) : Bears NG (heapOf vars) h := by
  refine ⟨rfl, hs, fun g o e => ?_⟩
  rw [heapOf_get] at e
  rcases vars_get e with rfl | ⟨rfl, rfl⟩
  · exact .inl rfl
  · exact .inr ⟨_, rfl, v, by kernel_rfl⟩
theorem of_vars {f : FuncId} {vs : Array Value} {v : Value} {h : Heap} (hv : Vars h) (e : runAt vars f vs = some v) (h1 : vs.all plain = true) (h2 : flatV v = true) : CallD Tryd.prog NG f vs h v h := by
  obtain ⟨h', c⟩ := of_runAt e
  exact CallD.sized fun hs => c.lift h1 h2 (bears_vars hs hv)

/-! ### kinds -/

theorem kinds {k : Int} (h : 0 ≤ k) : k = 0 ∨ k = 1 ∨ k = 2 ∨ k = 3 ∨ k = 4 ∨ k = 5 ∨ k = 6 ∨ k = 7 ∨ k = 8 ∨ k = 9 ∨ k = 10 ∨ k = 11 ∨ k = 12 ∨ k = 13 ∨ k = 14 ∨ k = 15 ∨ ∃ n : Nat, k = Int.ofNat (n + 16) := by
  by_cases c : k < 16
  · omega
  · iterate 16 refine .inr ?_
    exact ⟨(k - 16).toNat, by simp only [Int.ofNat_eq_natCast]; omega⟩

def loL (k : Int) : Int := if k < 16 then ([0, 0, 0, 1, 1, 2, 2, 2, 2, 2, 2, 3, 2, 1, 1, 0] : List Int).getD k.toNat 0 else 0
def hiL (k : Int) : Int := if k < 16 then ([0, 0, 0, 1, 1, 16, 16, 16, 16, 16, 16, 3, 2, 16, 1, 0] : List Int).getD k.toNat 0 else -1

theorem loL_big (n : Nat) : loL (Int.ofNat (n + 16)) = 0 := by unfold loL; rw [if_neg (by simp only [Int.ofNat_eq_natCast]; omega)]
theorem hiL_big (n : Nat) : hiL (Int.ofNat (n + 16)) = -1 := by unfold hiL; rw [if_neg (by simp only [Int.ofNat_eq_natCast]; omega)]

theorem fanin_ok {k : Int} (hk : 0 ≤ k) (hk2 : k < 256) {h : Heap} (hv : Vars h) : CallD Tryd.prog NG 18 #[u8 k] h (.tuple #[.int .i64 (loL k), .int .i64 (hiL k)]) h := by
  rcases kinds hk with rfl | rfl | rfl | rfl | rfl | rfl | rfl | rfl | rfl | rfl | rfl | rfl | rfl | rfl | rfl | rfl | ⟨n, rfl⟩
  iterate 16 exact of_vars hv (by kernel_rfl) (by kernel_rfl) (by kernel_rfl)
  rw [loL_big, hiL_big]
  refine fnP hM Tryd.func18 rfl (hP _ _ rfl Tryd.func18) (Nat.le_of_ble_eq_true rfl) (by kernel_rfl) ?_; ((conv => whnf); repeat ((first | refine CodeS.step ?_ | refine RegS.step ?_ | refine RegXS.step ?_); (conv => whnf)))
  refine ⟨_, convIntK rfl rfl rfl (IntWalk.i64_in _ (by omega)), ?_⟩
  ((conv => whnf); repeat ((first | refine CodeS.step ?_ | refine RegS.step ?_ | refine RegXS.step ?_); (conv => whnf)))
  refine ⟨true, rfl, fun _ => ?_, fun hc => by cases hc⟩
  ((conv => whnf); repeat ((first | refine CodeS.step ?_ | refine RegS.step ?_ | refine RegXS.step ?_); (conv => whnf)))
  exact ⟨rfl, Ext.refl _⟩

def controlL (k : Int) : Int := if k = 5 ∨ k = 6 then 0 else if k = 7 ∨ k = 8 then 1 else 2
def controlB (k : Int) : Bool := decide (k = 5 ∨ k = 6 ∨ k = 7 ∨ k = 8)
def invertsL (k : Int) : Bool := decide (k = 4 ∨ k = 6 ∨ k = 8 ∨ k = 10)

theorem control_ok {k : Int} (hk : 0 ≤ k) {h : Heap} : CallD Tryd.prog NG 69 #[u8 k] h (.tuple #[u8 (controlL k), .bool (controlB k)]) h := by
  rcases kinds hk with rfl | rfl | rfl | rfl | rfl | rfl | rfl | rfl | rfl | rfl | rfl | rfl | rfl | rfl | rfl | rfl | ⟨n, rfl⟩
  iterate 16 exact of_bare (by kernel_rfl) (by kernel_rfl) (by kernel_rfl)
  have h1 : controlL (Int.ofNat (n + 16)) = 2 := by unfold controlL; rw [if_neg (by simp only [Int.ofNat_eq_natCast]; omega), if_neg (by simp only [Int.ofNat_eq_natCast]; omega)]
  have h2 : controlB (Int.ofNat (n + 16)) = false := by unfold controlB; exact decide_eq_false (by simp only [Int.ofNat_eq_natCast]; omega)
  rw [h1, h2]
  exact of_bare (by kernel_rfl) (by kernel_rfl) (by kernel_rfl)

theorem inverts_ok {k : Int} (hk : 0 ≤ k) {h : Heap} : CallD Tryd.prog NG 80 #[u8 k] h (.bool (invertsL k)) h := by
  rcases kinds hk with rfl | rfl | rfl | rfl | rfl | rfl | rfl | rfl | rfl | rfl | rfl | rfl | rfl | rfl | rfl | rfl | ⟨n, rfl⟩
  iterate 16 exact of_bare (by kernel_rfl) (by kernel_rfl) (by kernel_rfl)
  have h2 : invertsL (Int.ofNat (n + 16)) = false := by unfold invertsL; exact decide_eq_false (by simp only [Int.ofNat_eq_natCast]; omega)
  rw [h2]
  exact of_bare (by kernel_rfl) (by kernel_rfl) (by kernel_rfl)

/-! ### gates -/

variable {h : Heap} {a : Option Addr} {n cap : Nat} {l : List Int}

def decidedGo (low high : Int) : List Int → Int → Int
  | [], out => out
  | v :: r, out => if v = low then low else decidedGo low high r (if v = high then out else 2)

theorem decided_ok (hs : Sl h 1 (.slice a n cap) (vals l)) (low high : Int) (hn : l.length < 2 ^ 62) :
    CallD Tryd.prog NG 51 #[.slice a n cap, u8 low, u8 high] h (u8 (decidedGo low high l high)) h := by
  obtain rfl := sl_len hs
  refine fnP hM Tryd.func51 rfl (hP _ _ rfl Tryd.func51) (Nat.le_of_ble_eq_true rfl) (by kernel_rfl) ?_; ((conv => whnf); repeat ((first | refine CodeS.step ?_ | refine RegS.step ?_ | refine RegXS.step ?_); (conv => whnf)))
  refine loopG (σ := Nat × Int) (nn := 28) hM (by kernel_rfl) (fun (i, out) h1 => h1 = h ∧ i ≤ l.length ∧ decidedGo low high (l.drop i) out = decidedGo low high l high)
    (fun (i, out) => [(1, u8 low), (2, u8 high), (7, u8 out), (11, .slice a l.length cap), (12, .int .i64 (Int.ofNat l.length)), (13, .int .i64 (Int.ofNat i))]) (fun (i, _) => l.length - i) rfl
    ⟨(0, high), ⟨rfl, Nat.zero_le _, rfl⟩, rfl, rfl, rfl, rfl, rfl, rfl, trivial⟩ ?_
  rintro ⟨i, out⟩ base h1 ⟨rfl, hi, hI⟩
  ((conv => whnf); repeat ((first | refine CodeS.step ?_ | refine RegS.step ?_ | refine RegXS.step ?_); (conv => whnf)))
  refine ⟨_, rfl, fun hc => ?_, fun hc => ?_⟩
  · replace hc := lt_of_ltI hc
    ((conv => whnf); repeat ((first | refine CodeS.step ?_ | refine RegS.step ?_ | refine RegXS.step ?_); (conv => whnf)))
    refine hs.indexK rfl rfl rfl rfl (j := i) (vals_get hc) fun g off cs ro hg he => ?_
    ((conv => whnf); repeat ((first | refine CodeS.step ?_ | refine RegS.step ?_ | refine RegXS.step ?_); (conv => whnf)))
    refine ⟨_, he.loadK hg (i := 0) rfl rfl rfl, ?_⟩
    ((conv => whnf); repeat ((first | refine CodeS.step ?_ | refine RegS.step ?_ | refine RegXS.step ?_); (conv => whnf)))
    rw [drop_cons hc, decidedGo] at hI
    refine ⟨_, rfl, fun hv => ?_, fun hv => ?_⟩
    · ((conv => whnf); repeat ((first | refine CodeS.step ?_ | refine RegS.step ?_ | refine RegXS.step ?_); (conv => whnf)))
      rw [beq_iff_eq] at hv
      rw [if_pos hv] at hI
      exact ⟨congrArg u8 hI, Ext.refl _⟩
    · ((conv => whnf); repeat ((first | refine CodeS.step ?_ | refine RegS.step ?_ | refine RegXS.step ?_); (conv => whnf)))
      rw [beq_eq_false_iff_ne] at hv
      rw [if_neg hv] at hI
      refine ⟨_, rfl, fun hw => ?_, fun hw => ?_⟩
      · ((conv => whnf); repeat ((first | refine CodeS.step ?_ | refine RegS.step ?_ | refine RegXS.step ?_); (conv => whnf)))
        rw [bne_iff_ne] at hw
        rw [if_neg hw] at hI
        refine ⟨_, addK (b := 1) rfl rfl (by omega), ?_⟩; ((conv => whnf); repeat ((first | refine CodeS.step ?_ | refine RegS.step ?_ | refine RegXS.step ?_); (conv => whnf)))
        exact ⟨(i + 1, 2), by simp only; omega, ⟨rfl, hc, hI⟩, rfl, rfl, rfl, rfl, rfl, rfl, trivial⟩
      · ((conv => whnf); repeat ((first | refine CodeS.step ?_ | refine RegS.step ?_ | refine RegXS.step ?_); (conv => whnf)))
        rw [bne_eq_false_iff_eq] at hw
        rw [if_pos hw] at hI
        refine ⟨_, addK (b := 1) rfl rfl (by omega), ?_⟩; ((conv => whnf); repeat ((first | refine CodeS.step ?_ | refine RegS.step ?_ | refine RegXS.step ?_); (conv => whnf)))
        exact ⟨(i + 1, out), by simp only; omega, ⟨rfl, hc, hI⟩, rfl, rfl, rfl, rfl, rfl, rfl, trivial⟩
  · replace hc := ge_of_ltI hc
    ((conv => whnf); repeat ((first | refine CodeS.step ?_ | refine RegS.step ?_ | refine RegXS.step ?_); (conv => whnf)))
    have : l.drop i = [] := List.drop_eq_nil_of_le hc
    simp only [this, decidedGo] at hI
    exact ⟨congrArg u8 hI, Ext.refl _⟩

def andL (l : List Int) : Int := decidedGo 0 1 l 1
def orL (l : List Int) : Int := decidedGo 1 0 l 0

theorem and_ok (hs : Sl h 1 (.slice a n cap) (vals l)) (hn : l.length < 2 ^ 62) : CallD Tryd.prog NG 28 #[.slice a n cap] h (u8 (andL l)) h := by
  refine fnP hM Tryd.func28 rfl (hP _ _ rfl Tryd.func28) (Nat.le_of_ble_eq_true rfl) (by kernel_rfl) ?_; ((conv => whnf); repeat ((first | refine CodeS.step ?_ | refine RegS.step ?_ | refine RegXS.step ?_); (conv => whnf)))
  refine ⟨_, _, decided_ok hs 0 1 hn, ?_⟩
  ((conv => whnf); repeat ((first | refine CodeS.step ?_ | refine RegS.step ?_ | refine RegXS.step ?_); (conv => whnf)))
  exact ⟨rfl, Ext.refl _⟩
theorem or_ok (hs : Sl h 1 (.slice a n cap) (vals l)) (hn : l.length < 2 ^ 62) : CallD Tryd.prog NG 29 #[.slice a n cap] h (u8 (orL l)) h := by
  refine fnP hM Tryd.func29 rfl (hP _ _ rfl Tryd.func29) (Nat.le_of_ble_eq_true rfl) (by kernel_rfl) ?_; ((conv => whnf); repeat ((first | refine CodeS.step ?_ | refine RegS.step ?_ | refine RegXS.step ?_); (conv => whnf)))
  refine ⟨_, _, decided_ok hs 1 0 hn, ?_⟩
  ((conv => whnf); repeat ((first | refine CodeS.step ?_ | refine RegS.step ?_ | refine RegXS.step ?_); (conv => whnf)))
  exact ⟨rfl, Ext.refl _⟩

def xor1 (a b : Int) : Int := if a = b then 0 else 1
def xorGo : List Int → Int → Int
  | [], out => out
  | v :: r, out => if v ≤ 1 then xorGo r (xor1 out v) else 2
def xorL (l : List Int) : Int := xorGo l 0

theorem xor1_bit {a b : Int} : xor1 a b = 0 ∨ xor1 a b = 1 := by unfold xor1; split <;> simp

theorem xorK {ρ : Operand → Value} {d : Option Tmp} {ty : TypeId} {pos : String} {af : Array Edge} {gd : Option (Nat × Bool)} {t yt : TypeId} {x y : Operand} {a b : Int} (hx : ρ x = u8 a) (hy : ρ y = u8 b) (ha : a = 0 ∨ a = 1) (hb : b = 0 ∨ b = 1) :
    apure Tryd.prog ρ { dst := d, op := .binOp .xor t x y yt, type := ty, pos := pos, after := af, guard := gd } = some (u8 (xor1 a b)) := by
  rcases ha with rfl | rfl <;> rcases hb with rfl | rfl <;>
  · refine bitsK (.inr (.inr (.inl rfl))) hx hy ?_
    kernel_rfl

theorem xor_ok (hs : Sl h 1 (.slice a n cap) (vals l)) (hl : ∀ x ∈ l, 0 ≤ x) (hn : l.length < 2 ^ 62) : CallD Tryd.prog NG 30 #[.slice a n cap] h (u8 (xorL l)) h := by
  obtain rfl := sl_len hs
  refine fnP hM Tryd.func30 rfl (hP _ _ rfl Tryd.func30) (Nat.le_of_ble_eq_true rfl) (by kernel_rfl) ?_; ((conv => whnf); repeat ((first | refine CodeS.step ?_ | refine RegS.step ?_ | refine RegXS.step ?_); (conv => whnf)))
  refine loopG (σ := Nat × Int) (nn := 20) hM (by kernel_rfl) (fun (i, out) h1 => h1 = h ∧ i ≤ l.length ∧ (out = 0 ∨ out = 1) ∧ xorGo (l.drop i) out = xorL l)
    (fun (i, out) => [(3, u8 out), (6, .slice a l.length cap), (7, .int .i64 (Int.ofNat l.length)), (8, .int .i64 (Int.ofNat i))]) (fun (i, _) => l.length - i) rfl
    ⟨(0, 0), ⟨rfl, Nat.zero_le _, .inl rfl, rfl⟩, rfl, rfl, rfl, rfl, trivial⟩ ?_
  rintro ⟨i, out⟩ base h1 ⟨rfl, hi, ho, hI⟩
  ((conv => whnf); repeat ((first | refine CodeS.step ?_ | refine RegS.step ?_ | refine RegXS.step ?_); (conv => whnf)))
  refine ⟨_, rfl, fun hc => ?_, fun hc => ?_⟩
  · replace hc := lt_of_ltI hc
    have h0 := hl _ (List.getElem_mem hc)
    ((conv => whnf); repeat ((first | refine CodeS.step ?_ | refine RegS.step ?_ | refine RegXS.step ?_); (conv => whnf)))
    refine hs.indexK rfl rfl rfl rfl (j := i) (vals_get hc) fun g off cs ro hg he => ?_
    ((conv => whnf); repeat ((first | refine CodeS.step ?_ | refine RegS.step ?_ | refine RegXS.step ?_); (conv => whnf)))
    refine ⟨_, he.loadK hg (i := 0) rfl rfl rfl, ?_⟩
    ((conv => whnf); repeat ((first | refine CodeS.step ?_ | refine RegS.step ?_ | refine RegXS.step ?_); (conv => whnf)))
    rw [drop_cons hc, xorGo] at hI
    refine ⟨_, _, known_ok h0, ?_⟩
    ((conv => whnf); repeat ((first | refine CodeS.step ?_ | refine RegS.step ?_ | refine RegXS.step ?_); (conv => whnf)))
    refine ⟨_, rfl, fun hv => ?_, fun hv => ?_⟩
    · ((conv => whnf); repeat ((first | refine CodeS.step ?_ | refine RegS.step ?_ | refine RegXS.step ?_); (conv => whnf)))
      simp only [knownL, Bool.not_eq_true', decide_eq_false_iff_not] at hv
      rw [if_neg hv] at hI
      exact ⟨congrArg u8 hI, Ext.refl _⟩
    · ((conv => whnf); repeat ((first | refine CodeS.step ?_ | refine RegS.step ?_ | refine RegXS.step ?_); (conv => whnf)))
      simp only [knownL, Bool.not_eq_false', decide_eq_true_eq] at hv
      rw [if_pos hv] at hI
      refine ⟨_, xorK rfl rfl ho (by omega), ?_⟩
      ((conv => whnf); repeat ((first | refine CodeS.step ?_ | refine RegS.step ?_ | refine RegXS.step ?_); (conv => whnf)))
      refine ⟨_, addK (b := 1) rfl rfl (by omega), ?_⟩; ((conv => whnf); repeat ((first | refine CodeS.step ?_ | refine RegS.step ?_ | refine RegXS.step ?_); (conv => whnf)))
      exact ⟨(i + 1, xor1 out l[i]), by simp only; omega, ⟨rfl, hc, xor1_bit, hI⟩, rfl, rfl, rfl, rfl, trivial⟩
  · replace hc := ge_of_ltI hc
    ((conv => whnf); repeat ((first | refine CodeS.step ?_ | refine RegS.step ?_ | refine RegXS.step ?_); (conv => whnf)))
    have : l.drop i = [] := List.drop_eq_nil_of_le hc
    simp only [this, xorGo] at hI
    exact ⟨congrArg u8 hI, Ext.refl _⟩

/-- What a node yields. -/
def evalL (k : Int) (l : List Int) : Int :=
  if (l.length : Int) < loL k then 2
  else if hiL k < l.length then 2
  else if k = 1 then 0
  else if k = 2 then 1
  else if k = 3 then readL (l.getD 0 0)
  else if k = 4 then notL (l.getD 0 0)
  else if k = 5 then andL l
  else if k = 6 then notL (andL l)
  else if k = 7 then orL l
  else if k = 8 then notL (orL l)
  else if k = 9 then xorL l
  else if k = 10 then notL (xorL l)
  else if k = 11 then muxL (l.getD 0 0) (l.getD 1 0) (l.getD 2 0)
  else if k = 12 then triL (l.getD 0 0) (l.getD 1 0)
  else if k = 13 then busL l
  else 2

theorem decidedGo_nonneg {low high : Int} (hlow : 0 ≤ low) : ∀ (l : List Int) (o : Int), 0 ≤ o → 0 ≤ decidedGo low high l o
  | [], _, ho => ho
  | v :: r, o, ho => by
    unfold decidedGo
    split
    · exact hlow
    · exact decidedGo_nonneg hlow r _ (by split <;> omega)
theorem andL_nonneg (l : List Int) : 0 ≤ andL l := decidedGo_nonneg (by decide) l _ (by decide)
theorem orL_nonneg (l : List Int) : 0 ≤ orL l := decidedGo_nonneg (by decide) l _ (by decide)
theorem xorGo_nonneg : ∀ (l : List Int) (o : Int), 0 ≤ o → 0 ≤ xorGo l o
  | [], _, ho => ho
  | v :: r, o, ho => by
    unfold xorGo
    split
    · exact xorGo_nonneg r _ (by unfold xor1; split <;> omega)
    · omega
theorem xorL_nonneg (l : List Int) : 0 ≤ xorL l := xorGo_nonneg l _ (by decide)

theorem getD_nonneg {l : List Int} (hl : ∀ x ∈ l, 0 ≤ x) (i : Nat) : 0 ≤ l.getD i 0 := by
  rw [List.getD_eq_getElem?_getD]
  cases e : l[i]? with
  | none => exact Int.le_refl _
  | some x => exact hl x (List.mem_of_getElem? e)
theorem vals_getD {l : List Int} {i : Nat} (h : i < l.length) : (vals l)[i]? = some (u8 (l.getD i 0)) := by
  rw [vals_get h, List.getD_eq_getElem?_getD, List.getElem?_eq_getElem h]; rfl

theorem lt_of_ltI' {a b : Int} (h : ltI a b = true) : a < b := by rw [ltI_eq] at h; simpa using h
theorem ge_of_ltI' {a b : Int} (h : ltI a b = false) : b ≤ a := by rw [ltI_eq] at h; simpa using h

theorem eval_ok {k : Int} (hk : 0 ≤ k) (hk2 : k < 256) (hv : Vars h) (hs : Sl h 1 (.slice a n cap) (vals l)) (hl : ∀ x ∈ l, 0 ≤ x) (hn : l.length < 2 ^ 62) : CallD Tryd.prog NG 10 #[u8 k, .slice a n cap] h (u8 (evalL k l)) h := by
  obtain rfl := sl_len hs
  unfold evalL
  refine fnP hM Tryd.func10 rfl (hP _ _ rfl Tryd.func10) (Nat.le_of_ble_eq_true rfl) (by kernel_rfl) ?_; ((conv => whnf); repeat ((first | refine CodeS.step ?_ | refine RegS.step ?_ | refine RegXS.step ?_); (conv => whnf)))
  refine ⟨_, _, fanin_ok hk hk2 hv, ?_⟩
  ((conv => whnf); repeat ((first | refine CodeS.step ?_ | refine RegS.step ?_ | refine RegXS.step ?_); (conv => whnf)))
  refine ⟨_, rfl, fun hc => ?_, fun hc => ?_⟩
  · replace hc := lt_of_ltI' hc
    rw [if_pos hc]
    have hc' : ltI (l.length : Int) (loL k) = true := by rw [ltI_eq]; simpa using hc
    simp only [hc']
    ((conv => whnf); repeat ((first | refine CodeS.step ?_ | refine RegS.step ?_ | refine RegXS.step ?_); (conv => whnf)))
    refine ⟨true, rfl, fun _ => ?_, fun hc => by cases hc⟩
    ((conv => whnf); repeat ((first | refine CodeS.step ?_ | refine RegS.step ?_ | refine RegXS.step ?_); (conv => whnf)))
    exact ⟨rfl, Ext.refl _⟩
  have hc' := hc
  replace hc := ge_of_ltI' hc
  rw [if_neg (by omega)]
  simp only [hc']
  ((conv => whnf); repeat ((first | refine CodeS.step ?_ | refine RegS.step ?_ | refine RegXS.step ?_); (conv => whnf)))
  refine ⟨_, rfl, fun hc => ?_, fun hc => ?_⟩
  · replace hc := lt_of_ltI' hc
    rw [if_pos hc]
    ((conv => whnf); repeat ((first | refine CodeS.step ?_ | refine RegS.step ?_ | refine RegXS.step ?_); (conv => whnf)))
    exact ⟨rfl, Ext.refl _⟩
  have hd := ge_of_ltI' hc
  rw [if_neg (by omega)]
  clear hc
  ((conv => whnf); repeat ((first | refine CodeS.step ?_ | refine RegS.step ?_ | refine RegXS.step ?_); (conv => whnf)))
  have key : ∀ x y : Int, (x == y) = true → x = y := fun x y h => by simpa using h
  have key' : ∀ x y : Int, (x == y) = false → ¬ x = y := fun x y h => by simpa using h
  -- Zero
  refine ⟨_, rfl, fun hc => ?_, fun hc => ?_⟩
  · rw [if_pos (key _ _ hc)]
    ((conv => whnf); repeat ((first | refine CodeS.step ?_ | refine RegS.step ?_ | refine RegXS.step ?_); (conv => whnf)))
    exact ⟨rfl, Ext.refl _⟩
  rw [if_neg (key' _ _ hc)]
  ((conv => whnf); repeat ((first | refine CodeS.step ?_ | refine RegS.step ?_ | refine RegXS.step ?_); (conv => whnf)))
  -- One
  refine ⟨_, rfl, fun hc => ?_, fun hc => ?_⟩
  · rw [if_pos (key _ _ hc)]
    ((conv => whnf); repeat ((first | refine CodeS.step ?_ | refine RegS.step ?_ | refine RegXS.step ?_); (conv => whnf)))
    exact ⟨rfl, Ext.refl _⟩
  rw [if_neg (key' _ _ hc)]
  ((conv => whnf); repeat ((first | refine CodeS.step ?_ | refine RegS.step ?_ | refine RegXS.step ?_); (conv => whnf)))
  -- Buf
  refine ⟨_, rfl, fun hc => ?_, fun hc => ?_⟩
  · obtain rfl := key _ _ hc
    rw [if_pos rfl]
    have h0 : 0 < l.length := by have : loL 3 = 1 := rfl; omega
    ((conv => whnf); repeat ((first | refine CodeS.step ?_ | refine RegS.step ?_ | refine RegXS.step ?_); (conv => whnf)))
    refine hs.indexK rfl rfl rfl rfl (j := 0) (vals_getD h0) fun g off cs ro hg he => ?_
    ((conv => whnf); repeat ((first | refine CodeS.step ?_ | refine RegS.step ?_ | refine RegXS.step ?_); (conv => whnf)))
    refine ⟨_, he.loadK hg (i := 0) rfl rfl rfl, ?_⟩
    ((conv => whnf); repeat ((first | refine CodeS.step ?_ | refine RegS.step ?_ | refine RegXS.step ?_); (conv => whnf)))
    refine ⟨_, _, read_ok (getD_nonneg hl 0), ?_⟩
    ((conv => whnf); repeat ((first | refine CodeS.step ?_ | refine RegS.step ?_ | refine RegXS.step ?_); (conv => whnf)))
    exact ⟨rfl, Ext.refl _⟩
  rw [if_neg (key' _ _ hc)]
  ((conv => whnf); repeat ((first | refine CodeS.step ?_ | refine RegS.step ?_ | refine RegXS.step ?_); (conv => whnf)))
  -- Not
  refine ⟨_, rfl, fun hc => ?_, fun hc => ?_⟩
  · obtain rfl := key _ _ hc
    rw [if_pos rfl]
    have h0 : 0 < l.length := by have : loL 4 = 1 := rfl; omega
    ((conv => whnf); repeat ((first | refine CodeS.step ?_ | refine RegS.step ?_ | refine RegXS.step ?_); (conv => whnf)))
    refine hs.indexK rfl rfl rfl rfl (j := 0) (vals_getD h0) fun g off cs ro hg he => ?_
    ((conv => whnf); repeat ((first | refine CodeS.step ?_ | refine RegS.step ?_ | refine RegXS.step ?_); (conv => whnf)))
    refine ⟨_, he.loadK hg (i := 0) rfl rfl rfl, ?_⟩
    ((conv => whnf); repeat ((first | refine CodeS.step ?_ | refine RegS.step ?_ | refine RegXS.step ?_); (conv => whnf)))
    refine ⟨_, _, not_ok (getD_nonneg hl 0), ?_⟩
    ((conv => whnf); repeat ((first | refine CodeS.step ?_ | refine RegS.step ?_ | refine RegXS.step ?_); (conv => whnf)))
    exact ⟨rfl, Ext.refl _⟩
  rw [if_neg (key' _ _ hc)]
  ((conv => whnf); repeat ((first | refine CodeS.step ?_ | refine RegS.step ?_ | refine RegXS.step ?_); (conv => whnf)))
  -- And
  refine ⟨_, rfl, fun hc => ?_, fun hc => ?_⟩
  · rw [if_pos (key _ _ hc)]
    ((conv => whnf); repeat ((first | refine CodeS.step ?_ | refine RegS.step ?_ | refine RegXS.step ?_); (conv => whnf)))
    refine ⟨_, _, and_ok hs hn, ?_⟩
    ((conv => whnf); repeat ((first | refine CodeS.step ?_ | refine RegS.step ?_ | refine RegXS.step ?_); (conv => whnf)))
    exact ⟨rfl, Ext.refl _⟩
  rw [if_neg (key' _ _ hc)]
  ((conv => whnf); repeat ((first | refine CodeS.step ?_ | refine RegS.step ?_ | refine RegXS.step ?_); (conv => whnf)))
  -- Nand
  refine ⟨_, rfl, fun hc => ?_, fun hc => ?_⟩
  · rw [if_pos (key _ _ hc)]
    ((conv => whnf); repeat ((first | refine CodeS.step ?_ | refine RegS.step ?_ | refine RegXS.step ?_); (conv => whnf)))
    refine ⟨_, _, and_ok hs hn, ?_⟩
    ((conv => whnf); repeat ((first | refine CodeS.step ?_ | refine RegS.step ?_ | refine RegXS.step ?_); (conv => whnf)))
    refine ⟨_, _, not_ok (andL_nonneg l), ?_⟩
    ((conv => whnf); repeat ((first | refine CodeS.step ?_ | refine RegS.step ?_ | refine RegXS.step ?_); (conv => whnf)))
    exact ⟨rfl, Ext.refl _⟩
  rw [if_neg (key' _ _ hc)]
  ((conv => whnf); repeat ((first | refine CodeS.step ?_ | refine RegS.step ?_ | refine RegXS.step ?_); (conv => whnf)))
  -- Or
  refine ⟨_, rfl, fun hc => ?_, fun hc => ?_⟩
  · rw [if_pos (key _ _ hc)]
    ((conv => whnf); repeat ((first | refine CodeS.step ?_ | refine RegS.step ?_ | refine RegXS.step ?_); (conv => whnf)))
    refine ⟨_, _, or_ok hs hn, ?_⟩
    ((conv => whnf); repeat ((first | refine CodeS.step ?_ | refine RegS.step ?_ | refine RegXS.step ?_); (conv => whnf)))
    exact ⟨rfl, Ext.refl _⟩
  rw [if_neg (key' _ _ hc)]
  ((conv => whnf); repeat ((first | refine CodeS.step ?_ | refine RegS.step ?_ | refine RegXS.step ?_); (conv => whnf)))
  -- Nor
  refine ⟨_, rfl, fun hc => ?_, fun hc => ?_⟩
  · rw [if_pos (key _ _ hc)]
    ((conv => whnf); repeat ((first | refine CodeS.step ?_ | refine RegS.step ?_ | refine RegXS.step ?_); (conv => whnf)))
    refine ⟨_, _, or_ok hs hn, ?_⟩
    ((conv => whnf); repeat ((first | refine CodeS.step ?_ | refine RegS.step ?_ | refine RegXS.step ?_); (conv => whnf)))
    refine ⟨_, _, not_ok (orL_nonneg l), ?_⟩
    ((conv => whnf); repeat ((first | refine CodeS.step ?_ | refine RegS.step ?_ | refine RegXS.step ?_); (conv => whnf)))
    exact ⟨rfl, Ext.refl _⟩
  rw [if_neg (key' _ _ hc)]
  ((conv => whnf); repeat ((first | refine CodeS.step ?_ | refine RegS.step ?_ | refine RegXS.step ?_); (conv => whnf)))
  -- Xor
  refine ⟨_, rfl, fun hc => ?_, fun hc => ?_⟩
  · rw [if_pos (key _ _ hc)]
    ((conv => whnf); repeat ((first | refine CodeS.step ?_ | refine RegS.step ?_ | refine RegXS.step ?_); (conv => whnf)))
    refine ⟨_, _, xor_ok hs hl hn, ?_⟩
    ((conv => whnf); repeat ((first | refine CodeS.step ?_ | refine RegS.step ?_ | refine RegXS.step ?_); (conv => whnf)))
    exact ⟨rfl, Ext.refl _⟩
  rw [if_neg (key' _ _ hc)]
  ((conv => whnf); repeat ((first | refine CodeS.step ?_ | refine RegS.step ?_ | refine RegXS.step ?_); (conv => whnf)))
  -- Xnor
  refine ⟨_, rfl, fun hc => ?_, fun hc => ?_⟩
  · rw [if_pos (key _ _ hc)]
    ((conv => whnf); repeat ((first | refine CodeS.step ?_ | refine RegS.step ?_ | refine RegXS.step ?_); (conv => whnf)))
    refine ⟨_, _, xor_ok hs hl hn, ?_⟩
    ((conv => whnf); repeat ((first | refine CodeS.step ?_ | refine RegS.step ?_ | refine RegXS.step ?_); (conv => whnf)))
    refine ⟨_, _, not_ok (xorL_nonneg l), ?_⟩
    ((conv => whnf); repeat ((first | refine CodeS.step ?_ | refine RegS.step ?_ | refine RegXS.step ?_); (conv => whnf)))
    exact ⟨rfl, Ext.refl _⟩
  rw [if_neg (key' _ _ hc)]
  ((conv => whnf); repeat ((first | refine CodeS.step ?_ | refine RegS.step ?_ | refine RegXS.step ?_); (conv => whnf)))
  -- Mux
  refine ⟨_, rfl, fun hc => ?_, fun hc => ?_⟩
  · obtain rfl := key _ _ hc
    rw [if_pos rfl]
    have h0 : 2 < l.length := by have : loL 11 = 3 := rfl; omega
    ((conv => whnf); repeat ((first | refine CodeS.step ?_ | refine RegS.step ?_ | refine RegXS.step ?_); (conv => whnf)))
    refine hs.indexK rfl rfl rfl rfl (j := 0) (vals_getD (by omega)) fun g0 off0 cs0 ro0 hg0 he0 => ?_
    ((conv => whnf); repeat ((first | refine CodeS.step ?_ | refine RegS.step ?_ | refine RegXS.step ?_); (conv => whnf)))
    refine ⟨_, he0.loadK hg0 (i := 0) rfl rfl rfl, ?_⟩
    ((conv => whnf); repeat ((first | refine CodeS.step ?_ | refine RegS.step ?_ | refine RegXS.step ?_); (conv => whnf)))
    refine ⟨.inl rfl, ?_⟩
    ((conv => whnf); repeat ((first | refine CodeS.step ?_ | refine RegS.step ?_ | refine RegXS.step ?_); (conv => whnf)))
    refine hs.indexK rfl rfl rfl rfl (j := 1) (vals_getD (by omega)) fun g1 off1 cs1 ro1 hg1 he1 => ?_
    ((conv => whnf); repeat ((first | refine CodeS.step ?_ | refine RegS.step ?_ | refine RegXS.step ?_); (conv => whnf)))
    refine ⟨_, he1.loadK hg1 (i := 0) rfl rfl rfl, ?_⟩
    ((conv => whnf); repeat ((first | refine CodeS.step ?_ | refine RegS.step ?_ | refine RegXS.step ?_); (conv => whnf)))
    refine ⟨.inl rfl, ?_⟩
    ((conv => whnf); repeat ((first | refine CodeS.step ?_ | refine RegS.step ?_ | refine RegXS.step ?_); (conv => whnf)))
    refine hs.indexK rfl rfl rfl rfl (j := 2) (vals_getD (by omega)) fun g2 off2 cs2 ro2 hg2 he2 => ?_
    ((conv => whnf); repeat ((first | refine CodeS.step ?_ | refine RegS.step ?_ | refine RegXS.step ?_); (conv => whnf)))
    refine ⟨_, he2.loadK hg2 (i := 0) rfl rfl rfl, ?_⟩
    ((conv => whnf); repeat ((first | refine CodeS.step ?_ | refine RegS.step ?_ | refine RegXS.step ?_); (conv => whnf)))
    refine ⟨.inl rfl, ?_⟩
    ((conv => whnf); repeat ((first | refine CodeS.step ?_ | refine RegS.step ?_ | refine RegXS.step ?_); (conv => whnf)))
    refine ⟨_, _, mux_ok (getD_nonneg hl 1) (getD_nonneg hl 2), ?_⟩
    ((conv => whnf); repeat ((first | refine CodeS.step ?_ | refine RegS.step ?_ | refine RegXS.step ?_); (conv => whnf)))
    refine ⟨.inl (Ext.refl _), ?_⟩
    ((conv => whnf); repeat ((first | refine CodeS.step ?_ | refine RegS.step ?_ | refine RegXS.step ?_); (conv => whnf)))
    exact ⟨rfl, Ext.refl _⟩
  rw [if_neg (key' _ _ hc)]
  ((conv => whnf); repeat ((first | refine CodeS.step ?_ | refine RegS.step ?_ | refine RegXS.step ?_); (conv => whnf)))
  -- Tri
  refine ⟨_, rfl, fun hc => ?_, fun hc => ?_⟩
  · obtain rfl := key _ _ hc
    rw [if_pos rfl]
    have h0 : 1 < l.length := by have : loL 12 = 2 := rfl; omega
    ((conv => whnf); repeat ((first | refine CodeS.step ?_ | refine RegS.step ?_ | refine RegXS.step ?_); (conv => whnf)))
    refine hs.indexK rfl rfl rfl rfl (j := 0) (vals_getD (by omega)) fun g0 off0 cs0 ro0 hg0 he0 => ?_
    ((conv => whnf); repeat ((first | refine CodeS.step ?_ | refine RegS.step ?_ | refine RegXS.step ?_); (conv => whnf)))
    refine ⟨_, he0.loadK hg0 (i := 0) rfl rfl rfl, ?_⟩
    ((conv => whnf); repeat ((first | refine CodeS.step ?_ | refine RegS.step ?_ | refine RegXS.step ?_); (conv => whnf)))
    refine ⟨.inl rfl, ?_⟩
    ((conv => whnf); repeat ((first | refine CodeS.step ?_ | refine RegS.step ?_ | refine RegXS.step ?_); (conv => whnf)))
    refine hs.indexK rfl rfl rfl rfl (j := 1) (vals_getD (by omega)) fun g1 off1 cs1 ro1 hg1 he1 => ?_
    ((conv => whnf); repeat ((first | refine CodeS.step ?_ | refine RegS.step ?_ | refine RegXS.step ?_); (conv => whnf)))
    refine ⟨_, he1.loadK hg1 (i := 0) rfl rfl rfl, ?_⟩
    ((conv => whnf); repeat ((first | refine CodeS.step ?_ | refine RegS.step ?_ | refine RegXS.step ?_); (conv => whnf)))
    refine ⟨.inl rfl, ?_⟩
    ((conv => whnf); repeat ((first | refine CodeS.step ?_ | refine RegS.step ?_ | refine RegXS.step ?_); (conv => whnf)))
    refine ⟨_, _, tri_ok (getD_nonneg hl 1), ?_⟩
    ((conv => whnf); repeat ((first | refine CodeS.step ?_ | refine RegS.step ?_ | refine RegXS.step ?_); (conv => whnf)))
    refine ⟨.inl (Ext.refl _), ?_⟩
    ((conv => whnf); repeat ((first | refine CodeS.step ?_ | refine RegS.step ?_ | refine RegXS.step ?_); (conv => whnf)))
    exact ⟨rfl, Ext.refl _⟩
  rw [if_neg (key' _ _ hc)]
  ((conv => whnf); repeat ((first | refine CodeS.step ?_ | refine RegS.step ?_ | refine RegXS.step ?_); (conv => whnf)))
  -- Bus
  refine ⟨_, rfl, fun hc => ?_, fun hc => ?_⟩
  · rw [if_pos (key _ _ hc)]
    ((conv => whnf); repeat ((first | refine CodeS.step ?_ | refine RegS.step ?_ | refine RegXS.step ?_); (conv => whnf)))
    refine ⟨_, _, bus_ok hs hl hn, ?_⟩
    ((conv => whnf); repeat ((first | refine CodeS.step ?_ | refine RegS.step ?_ | refine RegXS.step ?_); (conv => whnf)))
    exact ⟨rfl, Ext.refl _⟩
  rw [if_neg (key' _ _ hc)]
  ((conv => whnf); repeat ((first | refine CodeS.step ?_ | refine RegS.step ?_ | refine RegXS.step ?_); (conv => whnf)))
  exact ⟨rfl, Ext.refl _⟩
end Go.Proofs.YtedefohdeignpaaDoor
