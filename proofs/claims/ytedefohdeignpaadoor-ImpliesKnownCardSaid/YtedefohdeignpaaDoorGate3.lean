/-
  The package 'implies', its gate in memory: parity.
-/
import Derived.Test.YtedefohdeignpaaDoorGate2
namespace Go.Proofs.YtedefohdeignpaaDoor
open Go.Abs
set_option maxRecDepth 100000

/-- The walk over the inputs: what is left, and the places that are unknown. -/
def parGo : Nat → Int → Nat → Option Nat → List Int → Int × Nat × Option Nat
  | _, v, n, w, [] => (v, n, w)
  | i, v, n, w, x :: r => if (x == 2) = true then parGo (i + 1) v (n + 1) (some i) r else parGo (i + 1) (xorL [v, x]) n w r

def parOf (k o : Int) (l : List Int) : Int × Nat × Option Nat :=
  if (hiddenL k o == 2) = true then parGo 0 0 1 none l else parGo 0 (hiddenL k o) 0 none l

def parityL (k o : Int) (l : List Int) : Bool × Int × List Int :=
  let (v, n, w) := parOf k o l
  if n = 0 then (v == 0, o, l)
  else if 1 < n then (true, o, l)
  else match w with
    | none => (setB o (putL k v), setV o (putL k v), l)
    | some i => (setB (l.getD i 0) v, o, l.set i (setV (l.getD i 0) v))

def whereV (gg gi : Nat) : Option Nat → Value
  | none => .pointer (some ⟨gg, 1, none⟩)
  | some i => .pointer (some ⟨gi, 0 + i * 1, none⟩)

theorem zeroVal : zeroOf Tryd.prog 28 = some (u8 0) := by kernel_rfl
theorem plainsVal : (u8 0).cells.all plain0 = true := by kernel_rfl

theorem two_mem {a b : Int} : ∀ v ∈ [u8 a, u8 b], (cl v).length = 1 := by
  intro v hv
  simp only [List.mem_cons, List.not_mem_nil, or_false] at hv
  rcases hv with rfl | rfl <;> rfl

theorem ptrEqK {P : Program} {ρ : Operand → Value} {h : Heap} {d : Option Tmp} {ty : TypeId} {pos : String} {af : Array Edge} {gd : Option (Nat × Bool)} {t e yt : TypeId} {x y : Operand} {g off g' off' s : Nat} {b : Bool}
    (hu : P.underlying t = some (.pointer e)) (hs : szOf P e = some (s + 1)) (hx : ρ x = .pointer (some ⟨g, off, none⟩)) (hy : ρ y = .pointer (some ⟨g', off', none⟩)) (hb : ptrSame h g off g' off' = some b) :
    aptrEq P ρ { dst := d, op := .binOp .eql t x y yt, type := ty, pos := pos, after := af, guard := gd } h = some (.bool b) := by
  unfold aptrEq
  simp only [hu, hx, hy, hs, hb]

theorem ptrSame_self {h : Heap} {g off : Nat} : ptrSame h g off g off = some true := by simp [ptrSame]
theorem ptrSame_apart {h : Heap} {g g' off off' : Nat} {cs cs' : List Value} (hne : g ≠ g') (h1 : h.get g = some (.cells cs false)) (h2 : h.get g' = some (.cells cs' false)) : ptrSame h g off g' off' = some false := by
  simp [ptrSame, hne, h1, h2]

section
variable {h : Heap} {gg gi : Nat} {k o : Int} {l : List Int}

theorem parity_ok (hk : 0 ≤ k) (ho : 0 ≤ o) (hl : ∀ x ∈ l, 0 ≤ x) (hn : l.length < 2 ^ 62) (G : GateAt h gg gi k o l) :
    ∃ h', CallD Tryd.prog NG 58 #[.pointer (some ⟨gg, 0, none⟩)] h (.bool (parityL k o l).1) h' ∧ GateAt h' gg gi k (parityL k o l).2.1 (parityL k o l).2.2 ∧ GStep h h' gg gi := by
  suffices q : ∃ r h', CallD Tryd.prog NG 58 #[.pointer (some ⟨gg, 0, none⟩)] h r h' ∧ (r = .bool (parityL k o l).1 ∧ GateAt h' gg gi k (parityL k o l).2.1 (parityL k o l).2.2 ∧ GStep h h' gg gi) by
    obtain ⟨r, h', q1, rfl, q2⟩ := q
    exact ⟨h', q1, q2⟩
  generalize hR : parityL k o l = R
  have hh0 : 0 ≤ hiddenL k o := by
    unfold hiddenL
    split
    · exact notL_nonneg
    · exact ho
  refine fnG hM Tryd.func58 rfl (hP _ _ rfl Tryd.func58) (Nat.le_of_ble_eq_true rfl) ?_; ((conv => whnf); repeat ((first | refine CodeS.step ?_ | refine RegS.step ?_ | refine RegXS.step ?_); (conv => whnf)))
  refine ⟨_, _, hidden_ok hk ho G, ?_⟩; ((conv => whnf); repeat ((first | refine CodeS.step ?_ | refine RegS.step ?_ | refine RegXS.step ?_); (conv => whnf)))
  refine ⟨.inl (Ext.refl _), ?_⟩; ((conv => whnf); repeat ((first | refine RegS.step ?_ | refine RegXS.step ?_); (conv => whnf)))
  refine CodeS.join (nn := 60) (fun h' => h' = h)
    [(0, .pointer (some ⟨gg, 0, none⟩)), (3, u8 (if (hiddenL k o == 2) = true then 0 else hiddenL k o)), (4, .int .i64 (Int.ofNat (if (hiddenL k o == 2) = true then 1 else 0))), (5, .pointer (some ⟨gg, 1, none⟩))] rfl ?_ ?_
  · ((conv => whnf); repeat ((first | refine CodeS.step ?_ | refine RegS.step ?_ | refine RegXS.step ?_); (conv => whnf)))
    refine ⟨_, rfl, fun hc => ?_, fun hc => ?_⟩
    · ((conv => whnf); repeat ((first | refine CodeS.step ?_ | refine RegS.step ?_ | refine RegXS.step ?_); (conv => whnf)))
      exact ⟨rfl, rfl, by rw [if_pos hc]; rfl, by rw [if_pos hc]; rfl, rfl, trivial⟩
    · have hc' : ¬ (hiddenL k o == 2) = true := by rw [hc]; simp
      ((conv => whnf); repeat ((first | refine CodeS.step ?_ | refine RegS.step ?_ | refine RegXS.step ?_); (conv => whnf)))
      exact ⟨rfl, rfl, by rw [if_neg hc']; rfl, by rw [if_neg hc']; rfl, rfl, trivial⟩
  have hP : ∃ v0 n0, (if (hiddenL k o == 2) = true then 0 else hiddenL k o) = v0 ∧ (if (hiddenL k o == 2) = true then 1 else 0) = n0 ∧ parOf k o l = parGo 0 v0 n0 none l ∧ 0 ≤ v0 ∧ n0 ≤ 1 := by
    refine ⟨_, _, rfl, rfl, ?_, ?_, ?_⟩
    · unfold parOf; split <;> rfl
    · split <;> omega
    · split <;> omega
  obtain ⟨v0, n0, e1, e2, hP, hv0, hn0⟩ := hP
  rw [e1, e2]
  clear e1 e2
  unfold parityL at hR
  rw [hP] at hR
  clear hP
  rintro base h1 rfl
  ((conv => whnf); repeat ((first | refine CodeS.step ?_ | refine RegS.step ?_ | refine RegXS.step ?_); (conv => whnf)))
  refine ⟨_, loadK rfl G.g rfl rfl, ?_⟩; ((conv => whnf); repeat ((first | refine CodeS.step ?_ | refine RegS.step ?_ | refine RegXS.step ?_); (conv => whnf)))
  refine loopG (σ := List Int × List Int × Int × Nat × Option Nat) (nn := 60) hM (by kernel_rfl)
    (fun (d, r, v, n, w) h2 => Ext h1 h2 ∧ d ++ r = l ∧ parGo d.length v n w r = parGo 0 v0 n0 none l ∧ 0 ≤ v ∧ n ≤ d.length + 1 ∧ ∀ i, w = some i → i < l.length)
    (fun (d, _, v, n, w) => [(0, .pointer (some ⟨gg, 0, none⟩)), (3, u8 v), (4, .int .i64 (Int.ofNat n)), (5, whereV gg gi w), (18, .slice (some ⟨gi, 0, none⟩) l.length l.length), (19, .int .i64 (Int.ofNat l.length)), (20, .int .i64 (Int.ofNat d.length))]) (fun (_, r, _) => r.length) rfl
    ⟨([], l, v0, n0, none), ⟨Ext.refl _, rfl, rfl, hv0, by simpa using hn0, by simp⟩, rfl, rfl, rfl, rfl, rfl, rfl, rfl, trivial⟩ ?_
  rintro ⟨d, r, v, n, w⟩ base h2 ⟨E, L2, I2, hv, hnd, hw⟩
  have G2 := G.ext E
  ((conv => whnf); repeat ((first | refine CodeS.step ?_ | refine RegS.step ?_ | refine RegXS.step ?_); (conv => whnf)))
  refine ⟨_, rfl, fun hc => ?_, fun hc => ?_⟩
  · replace hc := lt_of_ltI hc
    cases r with
    | nil => simp at L2; subst L2; omega
    | cons x r =>
      have hll : d.length + 1 ≤ l.length := hc
      have Gi : h2.get gi = some (.cells (vals (d ++ x :: r)) false) := by rw [L2]; exact G2.i
      have hx0 : 0 ≤ x := hl x (by rw [← L2]; simp)
      ((conv => whnf); repeat ((first | refine CodeS.step ?_ | refine RegS.step ?_ | refine RegXS.step ?_); (conv => whnf)))
      refine indexK rfl rfl rfl rfl hc ?_
      ((conv => whnf); repeat ((first | refine CodeS.step ?_ | refine RegS.step ?_ | refine RegXS.step ?_); (conv => whnf)))
      refine ⟨_, loadK rfl Gi rfl (vals_at d r x), ?_⟩
      ((conv => whnf); repeat ((first | refine CodeS.step ?_ | refine RegS.step ?_ | refine RegXS.step ?_); (conv => whnf)))
      rw [parGo] at I2
      refine ⟨_, rfl, fun hc => ?_, fun hc => ?_⟩
      · rw [if_pos hc] at I2
        ((conv => whnf); repeat ((first | refine CodeS.step ?_ | refine RegS.step ?_ | refine RegXS.step ?_); (conv => whnf)))
        refine ⟨_, addK (b := 1) rfl rfl (by omega), ?_⟩; ((conv => whnf); repeat ((first | refine CodeS.step ?_ | refine RegS.step ?_ | refine RegXS.step ?_); (conv => whnf)))
        refine ⟨_, loadK rfl G2.g rfl rfl, ?_⟩; ((conv => whnf); repeat ((first | refine CodeS.step ?_ | refine RegS.step ?_ | refine RegXS.step ?_); (conv => whnf)))
        refine indexK rfl rfl rfl rfl (by omega) ?_
        ((conv => whnf); repeat ((first | refine CodeS.step ?_ | refine RegS.step ?_ | refine RegXS.step ?_); (conv => whnf)))
        refine ⟨_, addK (b := 1) rfl rfl (by omega), ?_⟩; ((conv => whnf); repeat ((first | refine CodeS.step ?_ | refine RegS.step ?_ | refine RegXS.step ?_); (conv => whnf)))
        exact ⟨(d ++ [x], r, v, n + 1, some d.length), by simp, ⟨E, by simpa using L2, by simpa using I2, hv, by simp; omega, by intro i hi; cases hi; omega⟩, rfl, rfl, rfl, rfl, rfl, rfl, by simp; rfl, trivial⟩
      · rw [if_neg (by rw [hc]; simp)] at I2
        ((conv => whnf); repeat ((first | refine CodeS.step ?_ | refine RegS.step ?_ | refine RegXS.step ?_); (conv => whnf)))
        (first | refine ⟨_, _, buildK (vs := [u8 v, u8 x]) (s := 1) rfl rfl zeroVal plainsVal rfl rfl rfl rfl two_mem, fun h3 n3 => ?_⟩ | refine NewG.obj (buildK (vs := [u8 v, u8 x]) (s := 1) rfl rfl zeroVal plainsVal rfl rfl rfl rfl two_mem) fun h3 n3 => ?_); ((conv => whnf); repeat ((first | refine CodeS.step ?_ | refine RegS.step ?_ | refine RegXS.step ?_); (conv => whnf)))
        have hs3 : Sl h3 1 (.slice (some ⟨h2.size, 0, none⟩) 2 2) (vals [v, x]) := Sl.of_flat n3.get two_mem rfl (Nat.le_refl _) (r := []) rfl
        refine ⟨_, _, xor_ok hs3 (by intro z hz; simp only [List.mem_cons, List.not_mem_nil, or_false] at hz; rcases hz with rfl | rfl <;> assumption) (by show 2 < 2 ^ 62; decide), ?_⟩; ((conv => whnf); repeat ((first | refine CodeS.step ?_ | refine RegS.step ?_ | refine RegXS.step ?_); (conv => whnf)))
        refine ⟨_, addK (b := 1) rfl rfl (by omega), ?_⟩; ((conv => whnf); repeat ((first | refine CodeS.step ?_ | refine RegS.step ?_ | refine RegXS.step ?_); (conv => whnf)))
        exact ⟨(d ++ [x], r, xorL [v, x], n, w), by simp, ⟨n3.exts E, by simpa using L2, by simpa using I2, xorL_nonneg _, by simp; omega, hw⟩, rfl, rfl, rfl, rfl, rfl, rfl, by simp; rfl, trivial⟩
  · replace hc := ge_of_ltI hc
    cases r with
    | cons x r => have := congrArg List.length L2; simp at this; omega
    | nil =>
      rw [parGo] at I2
      rw [← I2] at hR
      simp only at hR
      ((conv => whnf); repeat ((first | refine CodeS.step ?_ | refine RegS.step ?_ | refine RegXS.step ?_); (conv => whnf)))
      refine ⟨_, rfl, fun hc => ?_, fun hc => ?_⟩
      · have h0 : n = 0 := by have := eq_of_beq hc; simp only [Int.ofNat_eq_natCast] at this; omega
        rw [if_pos h0] at hR
        ((conv => whnf); repeat ((first | refine CodeS.step ?_ | refine RegS.step ?_ | refine RegXS.step ?_); (conv => whnf)))
        subst hR
        exact ⟨rfl, G2, GStep.of_ext E⟩
      have h0 : n ≠ 0 := by have := beq_eq_false_iff_ne.1 hc; simp only [Int.ofNat_eq_natCast] at this; omega
      rw [if_neg h0] at hR
      ((conv => whnf); repeat ((first | refine CodeS.step ?_ | refine RegS.step ?_ | refine RegXS.step ?_); (conv => whnf)))
      refine ⟨_, rfl, fun hc => ?_, fun hc => ?_⟩
      · have h1 : 1 < n := by have := lt_of_ltI' hc; simp only [Int.ofNat_eq_natCast] at this; omega
        rw [if_pos h1] at hR
        ((conv => whnf); repeat ((first | refine CodeS.step ?_ | refine RegS.step ?_ | refine RegXS.step ?_); (conv => whnf)))
        subst hR
        exact ⟨rfl, G2, GStep.of_ext E⟩
      have h1 : ¬ 1 < n := by have := ge_of_ltI' hc; simp only [Int.ofNat_eq_natCast] at this; omega
      rw [if_neg h1] at hR
      cases w with
      | none =>
        ((conv => whnf); repeat ((first | refine CodeS.step ?_ | refine RegS.step ?_ | refine RegXS.step ?_); (conv => whnf)))
        refine ⟨_, .inr (ptrEqK rfl rfl rfl rfl ptrSame_self), ?_⟩
        ((conv => whnf); repeat ((first | refine CodeS.step ?_ | refine RegS.step ?_ | refine RegXS.step ?_); (conv => whnf)))
        refine ⟨true, rfl, fun _ => ?_, (fun hc => nomatch hc)⟩; ((conv => whnf); repeat ((first | refine CodeS.step ?_ | refine RegS.step ?_ | refine RegXS.step ?_); (conv => whnf)))
        obtain ⟨h3, c3, G3, S3⟩ := put_ok hk hv G2
        refine ⟨_, h3, c3, ?_⟩
        ((conv => whnf); repeat ((first | refine CodeS.step ?_ | refine RegS.step ?_ | refine RegXS.step ?_); (conv => whnf)))
        subst hR
        exact ⟨rfl, G3, (GStep.of_ext E).trans S3⟩
      | some i =>
        have hi := hw i rfl
        ((conv => whnf); repeat ((first | refine CodeS.step ?_ | refine RegS.step ?_ | refine RegXS.step ?_); (conv => whnf)))
        refine ⟨_, .inr (ptrEqK rfl rfl rfl rfl (ptrSame_apart (Ne.symm G2.ne) G2.i G2.g)), ?_⟩
        ((conv => whnf); repeat ((first | refine CodeS.step ?_ | refine RegS.step ?_ | refine RegXS.step ?_); (conv => whnf)))
        refine ⟨false, rfl, (fun hc => nomatch hc), fun _ => ?_⟩; ((conv => whnf); repeat ((first | refine CodeS.step ?_ | refine RegS.step ?_ | refine RegXS.step ?_); (conv => whnf)))
        have hx : (vals l)[0 + i * 1]? = some (u8 (l.getD i 0)) := by
          rw [Nat.zero_add, Nat.mul_one]
          exact vals_getD hi
        obtain ⟨h3, c3, u3⟩ := set_ok (y := v) G2.i hx
        have hs : (vals l).set (0 + i * 1) (u8 (setV (l.getD i 0) v)) = vals (l.set i (setV (l.getD i 0) v)) := by
          unfold vals
          rw [Nat.zero_add, Nat.mul_one, List.map_set]
        rw [hs] at u3
        obtain ⟨G3, S3⟩ := G2.inp (l1 := l.set i (setV (l.getD i 0) v)) (by simp) u3
        refine ⟨_, h3, c3, ?_⟩
        ((conv => whnf); repeat ((first | refine CodeS.step ?_ | refine RegS.step ?_ | refine RegXS.step ?_); (conv => whnf)))
        subst hR
        exact ⟨rfl, G3, (GStep.of_ext E).trans S3⟩
end
end Go.Proofs.YtedefohdeignpaaDoor
