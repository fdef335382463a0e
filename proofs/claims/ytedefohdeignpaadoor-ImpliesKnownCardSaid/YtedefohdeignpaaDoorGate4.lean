/-
  The package 'implies', its gate in memory: tried.
-/
import Derived.Test.YtedefohdeignpaaDoorGate3
import Derived.Test.YtedefohdeignpaaDoorBits
namespace Go.Proofs.YtedefohdeignpaaDoor
open Go.Abs
set_option maxRecDepth 100000

def bitL (m j : Nat) : Int := Int.ofNat (m / 2 ^ j % 2)
def vecL (m n : Nat) : List Int := (List.range n).map (bitL m)
def okL (m : Nat) : Nat → List Int → Bool → Bool
  | _, [], a => a
  | j, x :: r, a => okL m (j + 1) r (a && (x == 2 || x == bitL m j))
abbrev Seen := List Bool × List Bool
def mark (S : Seen) (v : Int) (j : Nat) : Seen := if v = 0 then (S.1.set j true, S.2) else (S.1, S.2.set j true)
def markAll : Nat → List Int → Seen → Seen
  | _, [], S => S
  | j, v :: r, S => markAll (j + 1) r (mark S v j)
def rowL (k o : Int) (l : List Int) (m : Nat) (A : Bool × Seen) : Bool × Seen :=
  if (!okL m 0 l true || (o != 2 && o != evalL k (vecL m l.length))) = true then A
  else (true, markAll 0 (vecL m l.length) (mark A.2 (evalL k (vecL m l.length)) l.length))
def rowsGo (k o : Int) (l : List Int) : Nat → Nat → Bool × Seen → Bool × Seen
  | 0, _, A => A
  | c + 1, m, A => rowsGo k o l c (m + 1) (rowL k o l m A)
def rowsL (k o : Int) (l : List Int) : Bool × Seen := rowsGo k o l (2 ^ l.length) 0 (false, List.replicate (l.length + 1) false, List.replicate (l.length + 1) false)
def finL (A : Bool × Seen) (j : Nat) (x : Int) : Int := if (A.1 && (A.2.1.getD j false != A.2.2.getD j false)) = true then (if A.2.2.getD j false = true then 1 else 0) else x
def finGo (A : Bool × Seen) : Nat → List Int → List Int
  | _, [] => []
  | j, x :: r => finL A j x :: finGo A (j + 1) r
def triedL (k o : Int) (l : List Int) : Bool × Int × List Int :=
  ((rowsL k o l).1, finL (rowsL k o l) l.length o, finGo (rowsL k o l) 0 l)

def vecTo (m j n : Nat) : List Int := (List.range n).map fun i => if i < j then bitL m i else 0
theorem vecTo_zero (m n : Nat) : vals (vecTo m 0 n) = List.replicate n (u8 0) := by
  unfold vals vecTo
  apply List.ext_getElem (by simp)
  intro i h1 h2
  simp
theorem vecTo_all (m n : Nat) : vecTo m n n = vecL m n := by
  unfold vecTo vecL
  apply List.ext_getElem (by simp)
  intro i h1 h2
  simp at h1
  simp [h1]
theorem vecTo_set (m j n : Nat) (_ : j < n) : (vals (vecTo m j n)).set (0 + j * 1) (u8 (bitL m j)) = vals (vecTo m (j + 1) n) := by
  unfold vals vecTo
  rw [Nat.zero_add, Nat.mul_one]
  apply List.ext_getElem (by simp)
  intro i h1 h2
  simp only [List.getElem_set, List.getElem_map, List.getElem_range]
  by_cases e : j = i
  · subst e; simp
  · rw [if_neg e]
    by_cases e2 : i < j
    · rw [if_pos e2, if_pos (by omega)]
    · rw [if_neg e2, if_neg (by omega)]
theorem vecTo_length (m j n : Nat) : (vals (vecTo m j n)).length = n := by simp [vals, vecTo]
theorem vals_at' {l : List Int} {j : Nat} (hj : j < l.length) : (vals l)[0 + j * 1]? = some (u8 l[j]) := by
  rw [Nat.zero_add, Nat.mul_one]; exact vals_get hj
theorem vecL_length (m n : Nat) : (vecL m n).length = n := by simp [vecL]
theorem bitL_wrap (m j : Nat) : IntKind.u8.wrap (Int.ofNat (m / 2 ^ j % 2)) = Int.ofNat (m / 2 ^ j % 2) := by
  rcases Nat.mod_two_eq_zero_or_one (m / 2 ^ j) with e | e <;> rw [e] <;> rfl
theorem vecL_nonneg (m n : Nat) : ∀ x ∈ vecL m n, 0 ≤ x := by
  intro x hx
  simp only [vecL, List.mem_map] at hx
  obtain ⟨j, _, rfl⟩ := hx
  exact Int.natCast_nonneg _

def bools (l : List Bool) : List Value := l.map .bool
def slv (n p : Nat) : Value := .slice (some ⟨p, 0, none⟩) n n

def falses (n : Nat) : AObj := .cells (List.replicate n (.bool false)) false
def Rows0 (h h2 : Heap) (n : Nat) : List Nat → Prop
  | [] => h2.get h.size = some (.cells [.slice none 0 0, .slice none 0 0] false)
  | [p] => h.size < p ∧ h2.get h.size = some (.cells [slv n p, .slice none 0 0] false) ∧ h2.get p = some (falses n)
  | [p, q] => h.size < p ∧ p < q ∧ h2.get h.size = some (.cells [slv n p, slv n q] false) ∧ h2.get p = some (falses n) ∧ h2.get q = some (falses n)
  | _ => False

/-- The two rows of what was seen, as they stand now. -/
structure Marked (h h7 : Heap) (p q : Nat) (S : Seen) : Prop where
  size : h7.size = h.size
  other : ∀ g, g ≠ p → g ≠ q → h7.get g = h.get g
  p : h7.get p = some (.cells (bools S.1) false)
  q : h7.get q = some (.cells (bools S.2) false)
theorem bools_set {l : List Bool} {j : Nat} (hj : j < l.length) : splice (bools l) (0 + j * 1) [.bool true] = bools (l.set j true) := by
  rw [splice_set (by simp [bools]; omega), Nat.zero_add, Nat.mul_one]
  unfold bools
  rw [List.map_set]
theorem Marked.left {h h7 h8 : Heap} {p q : Nat} {S : Seen} {j : Nat} (M : Marked h h7 p q S) (hpq : p ≠ q) (hj : j < S.1.length) (u : Upd h7 p (.cells (splice (bools S.1) (0 + j * 1) [.bool true]) false) h8) : Marked h h8 p q (mark S 0 j) :=
  ⟨by rw [u.size, M.size], fun g h1 h2 => by rw [u.other g h1, M.other g h1 h2], by rw [u.get, bools_set hj]; rfl, by rw [u.other q (Ne.symm hpq), M.q]; rfl⟩
theorem Marked.right {h h7 h8 : Heap} {p q : Nat} {S : Seen} {j : Nat} (M : Marked h h7 p q S) (hpq : p ≠ q) (hj : j < S.2.length) (u : Upd h7 q (.cells (splice (bools S.2) (0 + j * 1) [.bool true]) false) h8) : Marked h h8 p q (mark S 1 j) :=
  ⟨by rw [u.size, M.size], fun g h1 h2 => by rw [u.other g h2, M.other g h1 h2], by rw [u.other p hpq, M.p]; rfl, by rw [u.get, bools_set hj]; rfl⟩
theorem mark_length (S : Seen) (v : Int) (j : Nat) : (mark S v j).1.length = S.1.length ∧ (mark S v j).2.length = S.2.length := by
  unfold mark; split <;> simp
theorem bools_length (l : List Bool) : (bools l).length = l.length := by simp [bools]

theorem set_same {cs : List Value} {off : Nat} {v : Value} (hx : cs[off]? = some v) : cs.set off v = cs := by
  obtain ⟨hlt, e⟩ := List.getElem?_eq_some_iff.1 hx
  subst e
  exact List.set_getElem_self hlt
theorem Upd.noop {h : Heap} {g off : Nat} {cs : List Value} {v : Value} (hg : h.get g = some (.cells cs false)) (hx : cs[off]? = some v) : Upd h g (.cells (cs.set off v) false) h := by
  rw [set_same hx]; exact Upd.same hg
theorem Upd.once {h h5 : Heap} {g off : Nat} {cs : List Value} {v : Value} (hlt : off < cs.length) (u : Upd h g (.cells (splice cs off [v]) false) h5) : Upd h g (.cells (cs.set off v) false) h5 := by
  rw [← splice_set hlt]; exact u
theorem Upd.twice {h h5 h6 : Heap} {g off : Nat} {cs : List Value} {v w : Value} (hlt : off < cs.length) (u : Upd h g (.cells (splice cs off [v]) false) h5) (u' : Upd h5 g (.cells (splice (splice cs off [v]) off [w]) false) h6) : Upd h g (.cells (cs.set off w) false) h6 := by
  have e : splice (splice cs off [v]) off [w] = cs.set off w := by
    rw [splice_set (by rw [splice_set hlt, List.length_set]; exact hlt), splice_set hlt, List.set_set]
  rw [e] at u'
  exact ⟨u'.get, fun g' h1 => by rw [u'.other g' h1, u.other g' h1], by rw [u'.size, u.size]⟩
theorem splice_len {cs : List Value} {off : Nat} {v : Value} (hlt : off < cs.length) : (splice cs off [v]).length = cs.length := by rw [splice_set hlt, List.length_set]
theorem bools_at {l : List Bool} {j : Nat} (hj : j < l.length) : (bools l)[0 + j * 1]? = some (.bool (l.getD j false)) := by
  unfold bools
  rw [Nat.zero_add, Nat.mul_one, List.getElem?_map, List.getD_eq_getElem?_getD, List.getElem?_eq_getElem hj]
  rfl
theorem fin_next {l : List Int} {j : Nat} {y : Int} (hj : j < l.length) (r : List Int) : (l.set j y).take (j + 1) ++ r = l.take j ++ y :: r := by
  rw [List.set_eq_take_append_cons_drop, if_pos hj]
  have : (l.take j).length = j := by simp; omega
  rw [List.take_append, this, List.take_of_length_le (by omega)]
  simp

section
variable {h : Heap} {gg gi : Nat} {k o : Int} {l : List Int}

set_option maxHeartbeats 4000000 in
theorem tried_ok (hk : 0 ≤ k) (hk2 : k < 256) (hv : Vars h) (hn : l.length ≤ 16) (hb : ∀ m, m < 2 ^ l.length → evalL k (vecL m l.length) = 0 ∨ evalL k (vecL m l.length) = 1) (G : GateAt h gg gi k o l) :
    ∃ h', CallD Tryd.prog NG 56 #[.pointer (some ⟨gg, 0, none⟩)] h (.bool (triedL k o l).1) h' ∧ GateAt h' gg gi k (triedL k o l).2.1 (triedL k o l).2.2 ∧ GStep h h' gg gi := by
  suffices q : ∃ r h', CallD Tryd.prog NG 56 #[.pointer (some ⟨gg, 0, none⟩)] h r h' ∧ (r = .bool (triedL k o l).1 ∧ GateAt h' gg gi k (triedL k o l).2.1 (triedL k o l).2.2 ∧ GStep h h' gg gi) by
    obtain ⟨r, h', q1, rfl, q2⟩ := q
    exact ⟨h', q1, q2⟩
  unfold triedL
  simp only
  generalize hR : rowsL k o l = R
  unfold rowsL at hR
  refine fnG hM Tryd.func56 rfl (hP _ _ rfl Tryd.func56) (Nat.le_of_ble_eq_true rfl) ?_; ((conv => whnf); repeat ((first | refine CodeS.step ?_ | refine RegS.step ?_ | refine RegXS.step ?_); (conv => whnf)))
  refine ⟨_, loadK rfl G.g rfl rfl, ?_⟩; ((conv => whnf); repeat ((first | refine CodeS.step ?_ | refine RegS.step ?_ | refine RegXS.step ?_); (conv => whnf)))
  (first | refine ⟨_, _, anew_alloc (z := .agg #[.slice none 0 0, .slice none 0 0]) (by kernel_rfl) rfl rfl, fun h1 n1 => ?_⟩ | refine NewG.obj (anew_alloc (z := .agg #[.slice none 0 0, .slice none 0 0]) (by kernel_rfl) rfl rfl) fun h1 n1 => ?_)
  ((conv => whnf); repeat ((first | refine CodeS.step ?_ | refine RegS.step ?_ | refine RegXS.step ?_); (conv => whnf)))
  refine loopG (σ := List Nat) (nn := 160) hM (by kernel_rfl)
    (fun ps h2 => Ext h h2 ∧ h.size < h2.size ∧ Rows0 h h2 (l.length + 1) ps)
    (fun ps => [(0, .pointer (some ⟨gg, 0, none⟩)), (3, .int .i64 (Int.ofNat l.length)), (4, .pointer (some ⟨h.size, 0, none⟩)), (21, .int .i64 (Int.ofNat ps.length))]) (fun ps => 2 - ps.length) rfl
    ⟨[], ⟨n1.ext, by rw [n1.size]; omega, n1.get⟩, rfl, rfl, rfl, rfl, trivial⟩ ?_
  rintro ps base h2 ⟨E, hlt, I⟩
  match ps, I with
  | [], I =>
    ((conv => whnf); repeat ((first | refine CodeS.step ?_ | refine RegS.step ?_ | refine RegXS.step ?_); (conv => whnf)))
    refine ⟨true, rfl, fun _ => ?_, (fun hc => nomatch hc)⟩; ((conv => whnf); repeat ((first | refine CodeS.step ?_ | refine RegS.step ?_ | refine RegXS.step ?_); (conv => whnf)))
    refine ⟨_, addK (b := 1) rfl rfl (by omega), ?_⟩; ((conv => whnf); repeat ((first | refine CodeS.step ?_ | refine RegS.step ?_ | refine RegXS.step ?_); (conv => whnf)))
    (first | refine ⟨_, _, makeK (b := 1) rfl rfl rfl rfl rfl rfl rfl rfl (by omega) (by omega), fun h3 n3 => ?_⟩ | refine NewG.obj (makeK (b := 1) rfl rfl rfl rfl rfl rfl rfl rfl (by omega) (by omega)) fun h3 n3 => ?_); ((conv => whnf); repeat ((first | refine CodeS.step ?_ | refine RegS.step ?_ | refine RegXS.step ?_); (conv => whnf)))
    have hne : h2.size ≠ h.size := by omega
    refine indexArrK (j := 0) rfl rfl rfl rfl (by decide) ?_
    ((conv => whnf); repeat ((first | refine CodeS.step ?_ | refine RegS.step ?_ | refine RegXS.step ?_); (conv => whnf)))
    refine storeK rfl (n3.keep I) rfl rfl rfl (by decide) rfl fun h4 u4 => ?_; ((conv => whnf); repeat ((first | refine CodeS.step ?_ | refine RegS.step ?_ | refine RegXS.step ?_); (conv => whnf)))
    refine ⟨_, addK (b := 1) rfl rfl (by simp), ?_⟩; ((conv => whnf); repeat ((first | refine CodeS.step ?_ | refine RegS.step ?_ | refine RegXS.step ?_); (conv => whnf)))
    have s3 := n3.size
    have s4 := u4.size
    exact ⟨[h2.size], by simp, ⟨u4.ext (n3.exts E) (Nat.le_refl _), by omega, by omega, u4.get, u4.keep hne n3.get⟩, rfl, rfl, rfl, rfl, trivial⟩
  | [p], ⟨I1, I2, I3⟩ =>
    ((conv => whnf); repeat ((first | refine CodeS.step ?_ | refine RegS.step ?_ | refine RegXS.step ?_); (conv => whnf)))
    refine ⟨true, rfl, fun _ => ?_, (fun hc => nomatch hc)⟩; ((conv => whnf); repeat ((first | refine CodeS.step ?_ | refine RegS.step ?_ | refine RegXS.step ?_); (conv => whnf)))
    refine ⟨_, addK (b := 1) rfl rfl (by omega), ?_⟩; ((conv => whnf); repeat ((first | refine CodeS.step ?_ | refine RegS.step ?_ | refine RegXS.step ?_); (conv => whnf)))
    (first | refine ⟨_, _, makeK (b := 1) rfl rfl rfl rfl rfl rfl rfl rfl (by omega) (by omega), fun h3 n3 => ?_⟩ | refine NewG.obj (makeK (b := 1) rfl rfl rfl rfl rfl rfl rfl rfl (by omega) (by omega)) fun h3 n3 => ?_); ((conv => whnf); repeat ((first | refine CodeS.step ?_ | refine RegS.step ?_ | refine RegXS.step ?_); (conv => whnf)))
    have hne : h2.size ≠ h.size := by omega
    have hp2 := Heap.lt_of_get I3
    refine indexArrK (j := 1) rfl rfl rfl rfl (by decide) ?_
    ((conv => whnf); repeat ((first | refine CodeS.step ?_ | refine RegS.step ?_ | refine RegXS.step ?_); (conv => whnf)))
    refine storeK rfl (n3.keep I2) rfl rfl rfl (Nat.le_of_ble_eq_true rfl) rfl fun h4 u4 => ?_; ((conv => whnf); repeat ((first | refine CodeS.step ?_ | refine RegS.step ?_ | refine RegXS.step ?_); (conv => whnf)))
    refine ⟨_, addK (b := 1) rfl rfl (by simp), ?_⟩; ((conv => whnf); repeat ((first | refine CodeS.step ?_ | refine RegS.step ?_ | refine RegXS.step ?_); (conv => whnf)))
    have s3 := n3.size
    have s4 := u4.size
    exact ⟨[p, h2.size], by simp, ⟨u4.ext (n3.exts E) (Nat.le_refl _), by omega, by omega, hp2, u4.get, u4.keep (by omega) (n3.keep I3), u4.keep hne n3.get⟩, rfl, rfl, rfl, rfl, trivial⟩
  | [p, q], ⟨I1, I2, I3, I4, I5⟩ =>
    ((conv => whnf); repeat ((first | refine CodeS.step ?_ | refine RegS.step ?_ | refine RegXS.step ?_); (conv => whnf)))
    refine ⟨false, rfl, (fun hc => nomatch hc), fun _ => ?_⟩; ((conv => whnf); repeat ((first | refine CodeS.step ?_ | refine RegS.step ?_ | refine RegXS.step ?_); (conv => whnf)))
    refine ⟨_, shiftK (.inl rfl) rfl rfl (shl_small l.length hn), ?_⟩; ((conv => whnf); repeat ((first | refine CodeS.step ?_ | refine RegS.step ?_ | refine RegXS.step ?_); (conv => whnf)))
    have hgs : h.size < h2.size := hlt
    have hq2 := Heap.lt_of_get I5
    refine loopG (σ := Nat × (Bool × Seen)) (nn := 160) hM (by kernel_rfl)
      (fun (m, A) h3 => m ≤ 2 ^ l.length ∧ Ext h h3 ∧ h3.get h.size = some (.cells [slv (l.length + 1) p, slv (l.length + 1) q] false) ∧ h3.get p = some (.cells (bools A.2.1) false) ∧ h3.get q = some (.cells (bools A.2.2) false) ∧ A.2.1.length = l.length + 1 ∧ A.2.2.length = l.length + 1 ∧ rowsGo k o l (2 ^ l.length - m) m A = R)
      (fun (m, A) => [(0, .pointer (some ⟨gg, 0, none⟩)), (3, .int .i64 (Int.ofNat l.length)), (4, .pointer (some ⟨h.size, 0, none⟩)), (6, .bool A.1), (31, .int .i64 (Int.ofNat (2 ^ l.length))), (32, .int .i64 (Int.ofNat m))]) (fun (m, _) => 2 ^ l.length - m) rfl
      ⟨(0, false, List.replicate (l.length + 1) false, List.replicate (l.length + 1) false), ⟨Nat.zero_le _, E, I3, by simpa [bools, falses] using I4, by simpa [bools, falses] using I5, by simp, by simp, hR⟩, rfl, rfl, rfl, rfl, rfl, rfl, trivial⟩ ?_
    rintro ⟨m, A⟩ base h3 ⟨hm, E3, J3, J4, J5, J6, J7, hR⟩
    have G3 := G.ext E3
    have hpow : 2 ^ l.length ≤ 2 ^ 16 := Nat.pow_le_pow_right (by decide) hn
    have hsz3 : h.size < h3.size := Heap.lt_of_get J3
    have hp3 := Heap.lt_of_get J4
    have hq3 := Heap.lt_of_get J5
    ((conv => whnf); repeat ((first | refine CodeS.step ?_ | refine RegS.step ?_ | refine RegXS.step ?_); (conv => whnf)))
    refine ⟨_, rfl, fun hc => ?_, fun hc => ?_⟩
    · replace hc := lt_of_ltI hc
      have e1 : 2 ^ l.length - m = (2 ^ l.length - (m + 1)) + 1 := by omega
      rw [e1, rowsGo] at hR
      ((conv => whnf); repeat ((first | refine CodeS.step ?_ | refine RegS.step ?_ | refine RegXS.step ?_); (conv => whnf)))
      (first | refine ⟨_, _, makeK (b := 1) rfl rfl rfl rfl rfl rfl rfl rfl (by omega) (by omega), fun h4 n4 => ?_⟩ | refine NewG.obj (makeK (b := 1) rfl rfl rfl rfl rfl rfl rfl rfl (by omega) (by omega)) fun h4 n4 => ?_); ((conv => whnf); repeat ((first | refine CodeS.step ?_ | refine RegS.step ?_ | refine RegXS.step ?_); (conv => whnf)))
      have s4 := n4.size
      refine loopG (σ := Nat × Bool) (nn := 160) hM (by kernel_rfl)
        (fun (j, a) h5 => j ≤ l.length ∧ h5.size = h4.size ∧ (∀ g, g ≠ h3.size → h5.get g = h4.get g) ∧ h5.get h3.size = some (.cells (vals (vecTo m j l.length)) false) ∧ okL m j (l.drop j) a = okL m 0 l true)
        (fun (j, a) => [(0, .pointer (some ⟨gg, 0, none⟩)), (3, .int .i64 (Int.ofNat l.length)), (4, .pointer (some ⟨h.size, 0, none⟩)), (6, .bool A.1), (7, .int .i64 (Int.ofNat m)), (8, .slice (some ⟨h3.size, 0, none⟩) l.length l.length), (9, .bool a), (31, .int .i64 (Int.ofNat (2 ^ l.length))), (32, .int .i64 (Int.ofNat m)), (38, .int .i64 (Int.ofNat l.length)), (39, .int .i64 (Int.ofNat j))]) (fun (j, _) => l.length - j) rfl
        ⟨(0, true), ⟨Nat.zero_le _, rfl, fun _ _ => rfl, by rw [vecTo_zero]; exact n4.get, rfl⟩, rfl, rfl, rfl, rfl, rfl, rfl, rfl, rfl, rfl, rfl, rfl, trivial⟩ ?_
      rintro ⟨j, a⟩ base h5 ⟨hj, s5, F5, B5, O5⟩
      have E5 : Ext h3 h5 := ⟨by omega, fun g hg => by rw [F5 g (by omega)]; exact n4.ext.2 g hg⟩
      have G5 := G3.ext E5
      ((conv => whnf); repeat ((first | refine CodeS.step ?_ | refine RegS.step ?_ | refine RegXS.step ?_); (conv => whnf)))
      refine ⟨_, rfl, fun hc => ?_, fun hc => ?_⟩
      · replace hc := lt_of_ltI hc
        rw [drop_cons hc, okL] at O5
        have hmj : m / 2 ^ j < 2 ^ 62 := Nat.lt_of_le_of_lt (Nat.div_le_self _ _) (by omega)
        ((conv => whnf); repeat ((first | refine CodeS.step ?_ | refine RegS.step ?_ | refine RegXS.step ?_); (conv => whnf)))
        refine ⟨_, shiftK (.inr rfl) rfl rfl (shr_small m j (by omega)), ?_⟩; ((conv => whnf); repeat ((first | refine CodeS.step ?_ | refine RegS.step ?_ | refine RegXS.step ?_); (conv => whnf)))
        refine ⟨_, bitsK (.inl rfl) rfl rfl (and_one (m / 2 ^ j) hmj), ?_⟩; ((conv => whnf); repeat ((first | refine CodeS.step ?_ | refine RegS.step ?_ | refine RegXS.step ?_); (conv => whnf)))
        refine ⟨_, convIntK rfl rfl rfl (bitL_wrap m j), ?_⟩; ((conv => whnf); repeat ((first | refine CodeS.step ?_ | refine RegS.step ?_ | refine RegXS.step ?_); (conv => whnf)))
        refine indexK rfl rfl rfl rfl hc ?_
        ((conv => whnf); repeat ((first | refine CodeS.step ?_ | refine RegS.step ?_ | refine RegXS.step ?_); (conv => whnf)))
        refine storeK rfl B5 rfl rfl rfl (by rw [vecTo_length]; show 0 + j * 1 + 1 ≤ l.length; omega) rfl fun h6 u6 => ?_; ((conv => whnf); repeat ((first | refine CodeS.step ?_ | refine RegS.step ?_ | refine RegXS.step ?_); (conv => whnf)))
        have u7 : Upd h5 h3.size (.cells (vals (vecTo m (j + 1) l.length)) false) h6 := by
          rw [← vecTo_set m j l.length hc, ← splice_set (by rw [vecTo_length]; omega)]
          exact u6
        have E6 : Ext h3 h6 := u7.ext E5 (Nat.le_refl _)
        have G6 := G3.ext E6
        have hbit : (vals (vecTo m (j + 1) l.length))[0 + j * 1]? = some (u8 (bitL m j)) := by
          rw [← vecTo_set m j l.length hc, List.getElem?_set_self (by rw [vecTo_length]; omega)]
        have next : ∀ a', okL m (j + 1) (l.drop (j + 1)) a' = okL m 0 l true → j + 1 ≤ l.length ∧ h6.size = h4.size ∧ (∀ g, g ≠ h3.size → h6.get g = h4.get g) ∧ h6.get h3.size = some (.cells (vals (vecTo m (j + 1) l.length)) false) ∧ okL m (j + 1) (l.drop (j + 1)) a' = okL m 0 l true :=
          fun a' q => ⟨hc, by rw [u7.size, s5], fun g hg => by rw [u7.other g hg, F5 g hg], u7.get, q⟩
        have hj' := hc
        refine ⟨_, rfl, fun hc => ?_, fun hc => ?_⟩
        · rw [hc] at O5
          ((conv => whnf); repeat ((first | refine CodeS.step ?_ | refine RegS.step ?_ | refine RegXS.step ?_); (conv => whnf)))
          refine ⟨_, loadK rfl G6.g rfl rfl, ?_⟩; ((conv => whnf); repeat ((first | refine CodeS.step ?_ | refine RegS.step ?_ | refine RegXS.step ?_); (conv => whnf)))
          refine ⟨.inr (.inr (loadK rfl G6.g rfl rfl)), ?_⟩; ((conv => whnf); repeat ((first | refine CodeS.step ?_ | refine RegS.step ?_ | refine RegXS.step ?_); (conv => whnf)))
          refine indexK rfl rfl rfl rfl hj' ?_
          ((conv => whnf); repeat ((first | refine CodeS.step ?_ | refine RegS.step ?_ | refine RegXS.step ?_); (conv => whnf)))
          refine ⟨_, loadK rfl G6.i rfl (vals_at' hj'), ?_⟩; ((conv => whnf); repeat ((first | refine CodeS.step ?_ | refine RegS.step ?_ | refine RegXS.step ?_); (conv => whnf)))
          refine ⟨.inl rfl, ?_⟩; ((conv => whnf); repeat ((first | refine CodeS.step ?_ | refine RegS.step ?_ | refine RegXS.step ?_); (conv => whnf)))
          refine ⟨_, rfl, fun hc => ?_, fun hc => ?_⟩
          · rw [hc] at O5
            ((conv => whnf); repeat ((first | refine CodeS.step ?_ | refine RegS.step ?_ | refine RegXS.step ?_); (conv => whnf)))
            refine ⟨_, addK (b := 1) rfl rfl (by omega), ?_⟩; ((conv => whnf); repeat ((first | refine CodeS.step ?_ | refine RegS.step ?_ | refine RegXS.step ?_); (conv => whnf)))
            exact ⟨(j + 1, true), by simp only; omega, next true (by simpa using O5), rfl, rfl, rfl, rfl, rfl, rfl, rfl, rfl, rfl, rfl, rfl, trivial⟩
          · rw [hc] at O5
            ((conv => whnf); repeat ((first | refine CodeS.step ?_ | refine RegS.step ?_ | refine RegXS.step ?_); (conv => whnf)))
            refine ⟨_, loadK rfl G6.g rfl rfl, ?_⟩; ((conv => whnf); repeat ((first | refine CodeS.step ?_ | refine RegS.step ?_ | refine RegXS.step ?_); (conv => whnf)))
            refine ⟨.inr (.inr (loadK rfl G6.g rfl rfl)), ?_⟩; ((conv => whnf); repeat ((first | refine CodeS.step ?_ | refine RegS.step ?_ | refine RegXS.step ?_); (conv => whnf)))
            refine indexK rfl rfl rfl rfl hj' ?_
            ((conv => whnf); repeat ((first | refine CodeS.step ?_ | refine RegS.step ?_ | refine RegXS.step ?_); (conv => whnf)))
            refine ⟨_, loadK rfl G6.i rfl (vals_at' hj'), ?_⟩; ((conv => whnf); repeat ((first | refine CodeS.step ?_ | refine RegS.step ?_ | refine RegXS.step ?_); (conv => whnf)))
            refine ⟨.inl rfl, ?_⟩; ((conv => whnf); repeat ((first | refine CodeS.step ?_ | refine RegS.step ?_ | refine RegXS.step ?_); (conv => whnf)))
            refine indexK rfl rfl rfl rfl hj' ?_
            ((conv => whnf); repeat ((first | refine CodeS.step ?_ | refine RegS.step ?_ | refine RegXS.step ?_); (conv => whnf)))
            refine ⟨_, loadK rfl u7.get rfl hbit, ?_⟩; ((conv => whnf); repeat ((first | refine CodeS.step ?_ | refine RegS.step ?_ | refine RegXS.step ?_); (conv => whnf)))
            refine ⟨.inl rfl, ?_⟩; ((conv => whnf); repeat ((first | refine CodeS.step ?_ | refine RegS.step ?_ | refine RegXS.step ?_); (conv => whnf)))
            refine ⟨_, addK (b := 1) rfl rfl (by omega), ?_⟩; ((conv => whnf); repeat ((first | refine CodeS.step ?_ | refine RegS.step ?_ | refine RegXS.step ?_); (conv => whnf)))
            exact ⟨(j + 1, l[j] == bitL m j), by simp only; omega, next _ (by simpa using O5), rfl, rfl, rfl, rfl, rfl, rfl, rfl, rfl, rfl, rfl, rfl, trivial⟩
        · rw [hc] at O5
          rw [hc]
          ((conv => whnf); repeat ((first | refine CodeS.step ?_ | refine RegS.step ?_ | refine RegXS.step ?_); (conv => whnf)))
          refine ⟨_, addK (b := 1) rfl rfl (by omega), ?_⟩; ((conv => whnf); repeat ((first | refine CodeS.step ?_ | refine RegS.step ?_ | refine RegXS.step ?_); (conv => whnf)))
          exact ⟨(j + 1, false), by simp only; omega, next false (by simpa using O5), rfl, rfl, rfl, rfl, rfl, rfl, rfl, rfl, rfl, rfl, rfl, trivial⟩
      · replace hc := ge_of_ltI hc
        obtain rfl : j = l.length := by omega
        rw [List.drop_eq_nil_of_le (Nat.le_refl _), okL] at O5
        rw [vecTo_all] at B5
        have hvl : (vecL m l.length).length = l.length := vecL_length _ _
        have SB : Sl h5 1 (.slice (some ⟨h3.size, 0, none⟩) l.length l.length) (vals (vecL m l.length)) :=
          Sl.of_flat B5 (by intro e he; simp only [vals, List.mem_map] at he; obtain ⟨x, _, rfl⟩ := he; rfl) (by simp [vals, hvl]) (by simp [vals, hvl]) (r := []) (by rw [List.append_nil, flatC_vals])
        have hrow : rowL k o l m A = if (!a || (o != 2 && o != evalL k (vecL m l.length))) = true then A else (true, markAll 0 (vecL m l.length) (mark A.2 (evalL k (vecL m l.length)) l.length)) := by
          unfold rowL; rw [← O5]
        have next : ∀ (A' : Bool × Seen) (h7 : Heap), rowL k o l m A = A' → Ext h h7 → h7.get h.size = some (.cells [slv (l.length + 1) p, slv (l.length + 1) q] false) → h7.get p = some (.cells (bools A'.2.1) false) → h7.get q = some (.cells (bools A'.2.2) false) → A'.2.1.length = l.length + 1 → A'.2.2.length = l.length + 1 →
            m + 1 ≤ 2 ^ l.length ∧ Ext h h7 ∧ h7.get h.size = some (.cells [slv (l.length + 1) p, slv (l.length + 1) q] false) ∧ h7.get p = some (.cells (bools A'.2.1) false) ∧ h7.get q = some (.cells (bools A'.2.2) false) ∧ A'.2.1.length = l.length + 1 ∧ A'.2.2.length = l.length + 1 ∧ rowsGo k o l (2 ^ l.length - (m + 1)) (m + 1) A' = R :=
          fun A' h7 q0 q1 q2 q3 q4 q5 q6 => ⟨by omega, q1, q2, q3, q4, q5, q6, by rw [← q0]; exact hR⟩
        have K3 : h5.get h.size = some (.cells [slv (l.length + 1) p, slv (l.length + 1) q] false) := E5.get J3
        have K4 := E5.get J4
        have K5 := E5.get J5
        have hr := hb m (by omega)
        generalize hev : evalL k (vecL m l.length) = r at hrow hr
        ((conv => whnf); repeat ((first | refine CodeS.step ?_ | refine RegS.step ?_ | refine RegXS.step ?_); (conv => whnf)))
        refine ⟨_, loadK rfl G5.g rfl rfl, ?_⟩; ((conv => whnf); repeat ((first | refine CodeS.step ?_ | refine RegS.step ?_ | refine RegXS.step ?_); (conv => whnf)))
        refine ⟨_, _, eval_ok hk hk2 (hv.ext (E3.trans E5)) SB (vecL_nonneg _ _) (by rw [hvl]; omega), ?_⟩
        rw [hev]
        ((conv => whnf); repeat ((first | refine RegS.step ?_ | refine RegXS.step ?_); (conv => whnf)))
        refine CodeS.join (nn := 160) (fun h' => h' = h5 ∧ (!a || (o != 2 && o != r)) = false)
          [(0, .pointer (some ⟨gg, 0, none⟩)), (3, .int .i64 (Int.ofNat l.length)), (4, .pointer (some ⟨h.size, 0, none⟩)), (6, .bool A.1), (8, .slice (some ⟨h3.size, 0, none⟩) l.length l.length), (11, u8 r), (31, .int .i64 (Int.ofNat (2 ^ l.length))), (32, .int .i64 (Int.ofNat m))] rfl ?_ ?_
        · ((conv => whnf); repeat ((first | refine CodeS.step ?_ | refine RegS.step ?_ | refine RegXS.step ?_); (conv => whnf)))
          refine ⟨_, rfl, fun hc => ?_, fun hc => ?_⟩
          · have ha : a = false := by simpa using hc
            rw [hc]
            ((conv => whnf); repeat ((first | refine CodeS.step ?_ | refine RegS.step ?_ | refine RegXS.step ?_); (conv => whnf)))
            refine ⟨true, rfl, fun _ => ?_, (fun hc => nomatch hc)⟩; ((conv => whnf); repeat ((first | refine CodeS.step ?_ | refine RegS.step ?_ | refine RegXS.step ?_); (conv => whnf)))
            refine ⟨_, addK (b := 1) rfl rfl (by omega), ?_⟩; ((conv => whnf); repeat ((first | refine CodeS.step ?_ | refine RegS.step ?_ | refine RegXS.step ?_); (conv => whnf)))
            exact ⟨(m + 1, A), by simp only; omega, next A h5 (by rw [hrow, ha]; rfl) (E3.trans E5) K3 K4 K5 J6 J7, rfl, rfl, rfl, rfl, rfl, rfl, trivial⟩
          have ha : a = true := by simpa using hc
          rw [hc]
          ((conv => whnf); repeat ((first | refine CodeS.step ?_ | refine RegS.step ?_ | refine RegXS.step ?_); (conv => whnf)))
          refine ⟨_, loadK rfl G5.g rfl rfl, ?_⟩; ((conv => whnf); repeat ((first | refine CodeS.step ?_ | refine RegS.step ?_ | refine RegXS.step ?_); (conv => whnf)))
          refine ⟨_, rfl, fun hc => ?_, fun hc => ?_⟩
          · have ho2 : (o != 2) = true := hc
            rw [hc]
            ((conv => whnf); repeat ((first | refine CodeS.step ?_ | refine RegS.step ?_ | refine RegXS.step ?_); (conv => whnf)))
            refine ⟨_, loadK rfl G5.g rfl rfl, ?_⟩; ((conv => whnf); repeat ((first | refine CodeS.step ?_ | refine RegS.step ?_ | refine RegXS.step ?_); (conv => whnf)))
            refine ⟨_, rfl, fun hc => ?_, fun hc => ?_⟩
            · ((conv => whnf); repeat ((first | refine CodeS.step ?_ | refine RegS.step ?_ | refine RegXS.step ?_); (conv => whnf)))
              refine ⟨_, addK (b := 1) rfl rfl (by omega), ?_⟩; ((conv => whnf); repeat ((first | refine CodeS.step ?_ | refine RegS.step ?_ | refine RegXS.step ?_); (conv => whnf)))
              exact ⟨(m + 1, A), by simp only; omega, next A h5 (by rw [hrow, ha, ho2, hc]; rfl) (E3.trans E5) K3 K4 K5 J6 J7, rfl, rfl, rfl, rfl, rfl, rfl, trivial⟩
            · ((conv => whnf); repeat ((first | refine CodeS.step ?_ | refine RegS.step ?_ | refine RegXS.step ?_); (conv => whnf)))
              exact ⟨⟨rfl, by rw [hc]; rfl⟩, rfl, rfl, rfl, rfl, rfl, rfl, rfl, rfl, trivial⟩
          · have ho2 : (o != 2) = false := hc
            rw [hc]
            ((conv => whnf); repeat ((first | refine CodeS.step ?_ | refine RegS.step ?_ | refine RegXS.step ?_); (conv => whnf)))
            refine ⟨false, rfl, (fun hc => nomatch hc), fun _ => ?_⟩; ((conv => whnf); repeat ((first | refine CodeS.step ?_ | refine RegS.step ?_ | refine RegXS.step ?_); (conv => whnf)))
            exact ⟨⟨rfl, rfl⟩, rfl, rfl, rfl, rfl, rfl, rfl, rfl, rfl, trivial⟩
        · rintro base h6 ⟨rfl, hno⟩
          rw [hno, if_neg (by simp)] at hrow
          (conv => whnf)
          refine CodeS.step ?_; (conv => whnf)
          refine CodeS.step ?_; (conv => whnf)
          ((conv => whnf); repeat ((first | refine RegS.step ?_ | refine RegXS.step ?_); (conv => whnf)))
          have hpq : p ≠ q := by omega
          refine CodeS.join (nn := 160) (fun h' => Marked h6 h' p q (mark A.2 r l.length))
            [(0, .pointer (some ⟨gg, 0, none⟩)), (3, .int .i64 (Int.ofNat l.length)), (4, .pointer (some ⟨h.size, 0, none⟩)), (6, .bool true), (8, .slice (some ⟨h3.size, 0, none⟩) l.length l.length), (31, .int .i64 (Int.ofNat (2 ^ l.length))), (32, .int .i64 (Int.ofNat m))] rfl ?_ ?_
          · rcases hr with rfl | rfl
            · ((conv => whnf); repeat ((first | refine CodeS.step ?_ | refine RegS.step ?_ | refine RegXS.step ?_); (conv => whnf)))
              refine indexArrK (j := 0) rfl rfl rfl rfl (by decide) ?_
              ((conv => whnf); repeat ((first | refine CodeS.step ?_ | refine RegS.step ?_ | refine RegXS.step ?_); (conv => whnf)))
              refine ⟨_, loadK rfl K3 rfl rfl, ?_⟩; ((conv => whnf); repeat ((first | refine CodeS.step ?_ | refine RegS.step ?_ | refine RegXS.step ?_); (conv => whnf)))
              refine indexK rfl rfl rfl rfl (Nat.lt_succ_self _) ?_
              ((conv => whnf); repeat ((first | refine CodeS.step ?_ | refine RegS.step ?_ | refine RegXS.step ?_); (conv => whnf)))
              refine storeK rfl K4 rfl rfl rfl (by rw [bools_length, J6]; show 0 + l.length * 1 + 1 ≤ l.length + 1; omega) rfl fun h7 u7 => ?_; ((conv => whnf); repeat ((first | refine CodeS.step ?_ | refine RegS.step ?_ | refine RegXS.step ?_); (conv => whnf)))
              exact ⟨Marked.left ⟨rfl, fun _ _ _ => rfl, K4, K5⟩ hpq (by omega) u7, rfl, rfl, rfl, rfl, rfl, rfl, rfl, trivial⟩
            · ((conv => whnf); repeat ((first | refine CodeS.step ?_ | refine RegS.step ?_ | refine RegXS.step ?_); (conv => whnf)))
              refine indexArrK (j := 1) rfl rfl rfl rfl (by decide) ?_
              ((conv => whnf); repeat ((first | refine CodeS.step ?_ | refine RegS.step ?_ | refine RegXS.step ?_); (conv => whnf)))
              refine ⟨_, loadK rfl K3 rfl rfl, ?_⟩; ((conv => whnf); repeat ((first | refine CodeS.step ?_ | refine RegS.step ?_ | refine RegXS.step ?_); (conv => whnf)))
              refine indexK rfl rfl rfl rfl (Nat.lt_succ_self _) ?_
              ((conv => whnf); repeat ((first | refine CodeS.step ?_ | refine RegS.step ?_ | refine RegXS.step ?_); (conv => whnf)))
              refine storeK rfl K5 rfl rfl rfl (by rw [bools_length, J7]; show 0 + l.length * 1 + 1 ≤ l.length + 1; omega) rfl fun h7 u7 => ?_; ((conv => whnf); repeat ((first | refine CodeS.step ?_ | refine RegS.step ?_ | refine RegXS.step ?_); (conv => whnf)))
              exact ⟨Marked.right ⟨rfl, fun _ _ _ => rfl, K4, K5⟩ hpq (by omega) u7, rfl, rfl, rfl, rfl, rfl, rfl, rfl, trivial⟩
          rintro base h7 M7
          ((conv => whnf); repeat ((first | refine CodeS.step ?_ | refine RegS.step ?_ | refine RegXS.step ?_); (conv => whnf)))
          refine loopG (σ := Nat × Seen) (nn := 160) hM (by kernel_rfl)
            (fun (j, S) h8 => j ≤ l.length ∧ Marked h6 h8 p q S ∧ S.1.length = l.length + 1 ∧ S.2.length = l.length + 1 ∧ markAll j ((vecL m l.length).drop j) S = markAll 0 (vecL m l.length) (mark A.2 r l.length))
            (fun (j, S) => [(0, .pointer (some ⟨gg, 0, none⟩)), (3, .int .i64 (Int.ofNat l.length)), (4, .pointer (some ⟨h.size, 0, none⟩)), (6, .bool true), (31, .int .i64 (Int.ofNat (2 ^ l.length))), (32, .int .i64 (Int.ofNat m)), (104, .slice (some ⟨h3.size, 0, none⟩) l.length l.length), (105, .int .i64 (Int.ofNat l.length)), (106, .int .i64 (Int.ofNat j))]) (fun (j, _) => l.length - j) rfl
            ⟨(0, mark A.2 r l.length), ⟨Nat.zero_le _, M7, by rw [(mark_length _ _ _).1, J6], by rw [(mark_length _ _ _).2, J7], rfl⟩, rfl, rfl, rfl, rfl, rfl, rfl, rfl, rfl, rfl, trivial⟩ ?_
          rintro ⟨j, S⟩ base h8 ⟨hj, M8, S1, S2, I8⟩
          ((conv => whnf); repeat ((first | refine CodeS.step ?_ | refine RegS.step ?_ | refine RegXS.step ?_); (conv => whnf)))
          have E6 := E3.trans E5
          have B8 : h8.get h3.size = some (.cells (vals (vecL m l.length)) false) := by rw [M8.other _ (by omega) (by omega)]; exact B5
          have K8 : h8.get h.size = some (.cells [slv (l.length + 1) p, slv (l.length + 1) q] false) := by rw [M8.other _ (by omega) (by omega)]; exact K3
          have M8p := M8.p
          have M8q := M8.q
          refine ⟨_, rfl, fun hc => ?_, fun hc => ?_⟩
          · replace hc := lt_of_ltI hc
            have hjv : j < (vecL m l.length).length := by rw [hvl]; exact hc
            rw [drop_cons hjv, markAll] at I8
            have hv01 : (vecL m l.length)[j] = 0 ∨ (vecL m l.length)[j] = 1 := by
              simp only [vecL, List.getElem_map, List.getElem_range, bitL]
              rcases Nat.mod_two_eq_zero_or_one (m / 2 ^ j) with e | e <;> rw [e] <;> simp
            have B9 := vals_at' hjv
            generalize (vecL m l.length)[j] = v at I8 hv01 B9
            have L1 := mark_length S v j
            ((conv => whnf); repeat ((first | refine CodeS.step ?_ | refine RegS.step ?_ | refine RegXS.step ?_); (conv => whnf)))
            refine indexK rfl rfl rfl rfl hc ?_
            ((conv => whnf); repeat ((first | refine CodeS.step ?_ | refine RegS.step ?_ | refine RegXS.step ?_); (conv => whnf)))
            refine ⟨_, loadK rfl B8 rfl B9, ?_⟩; ((conv => whnf); repeat ((first | refine CodeS.step ?_ | refine RegS.step ?_ | refine RegXS.step ?_); (conv => whnf)))
            rcases hv01 with rfl | rfl
            · ((conv => whnf); repeat ((first | refine CodeS.step ?_ | refine RegS.step ?_ | refine RegXS.step ?_); (conv => whnf)))
              refine indexArrK (j := 0) rfl rfl rfl rfl (by decide) ?_
              ((conv => whnf); repeat ((first | refine CodeS.step ?_ | refine RegS.step ?_ | refine RegXS.step ?_); (conv => whnf)))
              refine ⟨_, loadK rfl K8 rfl rfl, ?_⟩; ((conv => whnf); repeat ((first | refine CodeS.step ?_ | refine RegS.step ?_ | refine RegXS.step ?_); (conv => whnf)))
              refine indexK rfl rfl rfl rfl (Nat.lt_succ_of_lt hc) ?_
              ((conv => whnf); repeat ((first | refine CodeS.step ?_ | refine RegS.step ?_ | refine RegXS.step ?_); (conv => whnf)))
              refine storeK rfl M8p rfl rfl rfl (by rw [bools_length, S1]; show 0 + j * 1 + 1 ≤ l.length + 1; omega) rfl fun h9 u9 => ?_; ((conv => whnf); repeat ((first | refine CodeS.step ?_ | refine RegS.step ?_ | refine RegXS.step ?_); (conv => whnf)))
              refine ⟨_, addK (b := 1) rfl rfl (by omega), ?_⟩; ((conv => whnf); repeat ((first | refine CodeS.step ?_ | refine RegS.step ?_ | refine RegXS.step ?_); (conv => whnf)))
              exact ⟨(j + 1, mark S 0 j), by simp only; omega, ⟨hc, M8.left hpq (by omega) u9, by rw [L1.1, S1], by rw [L1.2, S2], I8⟩, rfl, rfl, rfl, rfl, rfl, rfl, rfl, rfl, rfl, trivial⟩
            · ((conv => whnf); repeat ((first | refine CodeS.step ?_ | refine RegS.step ?_ | refine RegXS.step ?_); (conv => whnf)))
              refine indexArrK (j := 1) rfl rfl rfl rfl (by decide) ?_
              ((conv => whnf); repeat ((first | refine CodeS.step ?_ | refine RegS.step ?_ | refine RegXS.step ?_); (conv => whnf)))
              refine ⟨_, loadK rfl K8 rfl rfl, ?_⟩; ((conv => whnf); repeat ((first | refine CodeS.step ?_ | refine RegS.step ?_ | refine RegXS.step ?_); (conv => whnf)))
              refine indexK rfl rfl rfl rfl (Nat.lt_succ_of_lt hc) ?_
              ((conv => whnf); repeat ((first | refine CodeS.step ?_ | refine RegS.step ?_ | refine RegXS.step ?_); (conv => whnf)))
              refine storeK rfl M8q rfl rfl rfl (by rw [bools_length, S2]; show 0 + j * 1 + 1 ≤ l.length + 1; omega) rfl fun h9 u9 => ?_; ((conv => whnf); repeat ((first | refine CodeS.step ?_ | refine RegS.step ?_ | refine RegXS.step ?_); (conv => whnf)))
              refine ⟨_, addK (b := 1) rfl rfl (by omega), ?_⟩; ((conv => whnf); repeat ((first | refine CodeS.step ?_ | refine RegS.step ?_ | refine RegXS.step ?_); (conv => whnf)))
              exact ⟨(j + 1, mark S 1 j), by simp only; omega, ⟨hc, M8.right hpq (by omega) u9, by rw [L1.1, S1], by rw [L1.2, S2], I8⟩, rfl, rfl, rfl, rfl, rfl, rfl, rfl, rfl, rfl, trivial⟩
          · replace hc := ge_of_ltI hc
            rw [List.drop_eq_nil_of_le (by omega), markAll] at I8
            have E8 : Ext h h8 := ⟨by have := M8.size; have := E6.1; omega, fun g hg => by rw [M8.other g (by omega) (by omega)]; exact E6.2 g hg⟩
            ((conv => whnf); repeat ((first | refine CodeS.step ?_ | refine RegS.step ?_ | refine RegXS.step ?_); (conv => whnf)))
            refine ⟨_, addK (b := 1) rfl rfl (by omega), ?_⟩; ((conv => whnf); repeat ((first | refine CodeS.step ?_ | refine RegS.step ?_ | refine RegXS.step ?_); (conv => whnf)))
            exact ⟨(m + 1, true, S), by simp only; omega, next (true, S) h8 (by rw [hrow, ← I8]) E8 K8 M8p M8q S1 S2, rfl, rfl, rfl, rfl, rfl, rfl, trivial⟩
    · replace hc := ge_of_ltI hc
      have e1 : 2 ^ l.length - m = 0 := by omega
      rw [e1, rowsGo] at hR
      obtain rfl : m = 2 ^ l.length := by omega
      subst hR
      ((conv => whnf); repeat ((first | refine CodeS.step ?_ | refine RegS.step ?_ | refine RegXS.step ?_); (conv => whnf)))
      refine ⟨_, addK (b := 1) rfl rfl (by omega), ?_⟩; ((conv => whnf); repeat ((first | refine CodeS.step ?_ | refine RegS.step ?_ | refine RegXS.step ?_); (conv => whnf)))
      refine loopG (σ := Nat × Int × List Int) (nn := 160) hM (by kernel_rfl)
        (fun (j, o', l') h4 => j ≤ l.length + 1 ∧ GateAt h4 gg gi k o' l' ∧ GStep h h4 gg gi ∧ l'.length = l.length ∧ h4.get h.size = some (.cells [slv (l.length + 1) p, slv (l.length + 1) q] false) ∧ h4.get p = some (.cells (bools A.2.1) false) ∧ h4.get q = some (.cells (bools A.2.2) false) ∧
          l'.take j ++ finGo A j (l'.drop j) = finGo A 0 l ∧ (if l.length < j then o' else finL A l.length o') = finL A l.length o)
        (fun (j, _, _) => [(0, .pointer (some ⟨gg, 0, none⟩)), (3, .int .i64 (Int.ofNat l.length)), (4, .pointer (some ⟨h.size, 0, none⟩)), (6, .bool A.1), (119, .int .i64 (Int.ofNat (l.length + 1))), (120, .int .i64 (Int.ofNat j))]) (fun (j, _, _) => l.length + 1 - j) rfl
        ⟨(0, o, l), ⟨Nat.zero_le _, G3, GStep.of_ext E3, rfl, J3, J4, J5, rfl, by rw [if_neg (by omega)]⟩, rfl, rfl, rfl, rfl, rfl, rfl, trivial⟩ ?_
      rintro ⟨j, o', l'⟩ base h4 ⟨hj, G4, S4, L4, W3, W4, W5, I4, O4⟩
      ((conv => whnf); repeat ((first | refine CodeS.step ?_ | refine RegS.step ?_ | refine RegXS.step ?_); (conv => whnf)))
      refine ⟨_, rfl, fun hc => ?_, fun hc => ?_⟩
      · replace hc := lt_of_ltI hc
        have hc0 : j < l.length + 1 := hc
        have hA1 : A.2.1.length = l.length + 1 := J6
        have hA2 : A.2.2.length = l.length + 1 := J7
        have hb0 := bools_at (l := A.2.1) (j := j) (by omega)
        have hb1 := bools_at (l := A.2.2) (j := j) (by omega)
        have hgg := Heap.lt_of_get G.g
        have hgi := Heap.lt_of_get G.i
        have hfin : ∀ x, finL A j x = if (A.1 && (A.2.1.getD j false != A.2.2.getD j false)) = true then (if A.2.2.getD j false = true then 1 else 0) else x := fun _ => rfl
        generalize A.2.1.getD j false = b0 at hb0 hfin
        generalize A.2.2.getD j false = b1 at hb1 hfin
        have nextIn : ∀ (hjl : j < l'.length) h5, Upd h4 gi (.cells ((vals l').set (0 + j * 1) (u8 (finL A j l'[j]))) false) h5 → j + 1 ≤ l.length + 1 ∧ GateAt h5 gg gi k o' (l'.set j (finL A j l'[j])) ∧ GStep h h5 gg gi ∧ (l'.set j (finL A j l'[j])).length = l.length ∧ h5.get h.size = some (.cells [slv (l.length + 1) p, slv (l.length + 1) q] false) ∧ h5.get p = some (.cells (bools A.2.1) false) ∧ h5.get q = some (.cells (bools A.2.2) false) ∧
            (l'.set j (finL A j l'[j])).take (j + 1) ++ finGo A (j + 1) ((l'.set j (finL A j l'[j])).drop (j + 1)) = finGo A 0 l ∧ (if l.length < j + 1 then o' else finL A l.length o') = finL A l.length o := by
          intro hjl h5 u
          have hs : (vals l').set (0 + j * 1) (u8 (finL A j l'[j])) = vals (l'.set j (finL A j l'[j])) := by
            unfold vals
            rw [Nat.zero_add, Nat.mul_one, List.map_set]
          have u' : Upd h4 gi (.cells (vals (l'.set j (finL A j l'[j]))) false) h5 := by rw [← hs]; exact u
          obtain ⟨G5, S5⟩ := G4.inp (l1 := l'.set j (finL A j l'[j])) (by simp) u'
          refine ⟨hc0, G5, S4.trans S5, by simpa using L4, u.keep (by omega) W3, u.keep (by omega) W4, u.keep (by omega) W5, ?_, ?_⟩
          · rw [fin_next hjl, List.drop_set_of_lt (Nat.lt_succ_self j), ← I4, drop_cons hjl, finGo]
          · rw [if_neg (by omega)] at O4
            rw [if_neg (by omega), O4]
        have nextOut : j = l.length → ∀ h5, Upd h4 gg (.cells ([u8 k, u8 o', .slice (some ⟨gi, 0, none⟩) l'.length l'.length].set 1 (u8 (finL A j o'))) false) h5 → j + 1 ≤ l.length + 1 ∧ GateAt h5 gg gi k (finL A j o') l' ∧ GStep h h5 gg gi ∧ l'.length = l.length ∧ h5.get h.size = some (.cells [slv (l.length + 1) p, slv (l.length + 1) q] false) ∧ h5.get p = some (.cells (bools A.2.1) false) ∧ h5.get q = some (.cells (bools A.2.2) false) ∧
            l'.take (j + 1) ++ finGo A (j + 1) (l'.drop (j + 1)) = finGo A 0 l ∧ (if l.length < j + 1 then finL A j o' else finL A l.length (finL A j o')) = finL A l.length o := by
          intro hjn h5 u
          obtain ⟨G5, S5⟩ := G4.out u
          refine ⟨hc0, G5, S4.trans S5, L4, u.keep (by omega) W3, u.keep (by omega) W4, u.keep (by omega) W5, ?_, ?_⟩
          · rw [← I4, List.take_of_length_le (by omega), List.drop_eq_nil_of_le (by omega), List.take_of_length_le (by omega), List.drop_eq_nil_of_le (by omega)]
            rfl
          · rw [if_neg (by omega)] at O4
            rw [if_pos (by omega), ← O4, hjn]
        ((conv => whnf); repeat ((first | refine CodeS.step ?_ | refine RegS.step ?_ | refine RegXS.step ?_); (conv => whnf)))
        refine ⟨_, rfl, fun hc => ?_, fun hc => ?_⟩
        · have hjl : j < l'.length := by rw [L4]; exact lt_of_ltI hc
          have fin := hfin l'[j]
          ((conv => whnf); repeat ((first | refine CodeS.step ?_ | refine RegS.step ?_ | refine RegXS.step ?_); (conv => whnf)))
          refine ⟨_, loadK rfl G4.g rfl rfl, ?_⟩; ((conv => whnf); repeat ((first | refine CodeS.step ?_ | refine RegS.step ?_ | refine RegXS.step ?_); (conv => whnf)))
          refine indexK rfl rfl rfl rfl hjl ?_
          ((conv => whnf); repeat ((first | refine CodeS.step ?_ | refine RegS.step ?_ | refine RegXS.step ?_); (conv => whnf)))
          refine ⟨_, rfl, fun hc => ?_, fun hc => ?_⟩
          · rw [hc] at fin
            ((conv => whnf); repeat ((first | refine CodeS.step ?_ | refine RegS.step ?_ | refine RegXS.step ?_); (conv => whnf)))
            refine indexArrK (j := 0) rfl rfl rfl rfl (by decide) ?_
            ((conv => whnf); repeat ((first | refine CodeS.step ?_ | refine RegS.step ?_ | refine RegXS.step ?_); (conv => whnf)))
            refine ⟨_, loadK rfl W3 rfl rfl, ?_⟩; ((conv => whnf); repeat ((first | refine CodeS.step ?_ | refine RegS.step ?_ | refine RegXS.step ?_); (conv => whnf)))
            refine ⟨.inr (.inr (loadK rfl W3 rfl rfl)), ?_⟩; ((conv => whnf); repeat ((first | refine CodeS.step ?_ | refine RegS.step ?_ | refine RegXS.step ?_); (conv => whnf)))
            refine indexK rfl rfl rfl rfl hc0 ?_
            ((conv => whnf); repeat ((first | refine CodeS.step ?_ | refine RegS.step ?_ | refine RegXS.step ?_); (conv => whnf)))
            refine ⟨_, loadK rfl W4 rfl hb0, ?_⟩; ((conv => whnf); repeat ((first | refine CodeS.step ?_ | refine RegS.step ?_ | refine RegXS.step ?_); (conv => whnf)))
            refine ⟨.inl rfl, ?_⟩; ((conv => whnf); repeat ((first | refine CodeS.step ?_ | refine RegS.step ?_ | refine RegXS.step ?_); (conv => whnf)))
            refine indexArrK (j := 1) rfl rfl rfl rfl (by decide) ?_
            ((conv => whnf); repeat ((first | refine CodeS.step ?_ | refine RegS.step ?_ | refine RegXS.step ?_); (conv => whnf)))
            refine ⟨_, loadK rfl W3 rfl rfl, ?_⟩; ((conv => whnf); repeat ((first | refine CodeS.step ?_ | refine RegS.step ?_ | refine RegXS.step ?_); (conv => whnf)))
            refine ⟨.inr (.inr (loadK rfl W3 rfl rfl)), ?_⟩; ((conv => whnf); repeat ((first | refine CodeS.step ?_ | refine RegS.step ?_ | refine RegXS.step ?_); (conv => whnf)))
            refine indexK rfl rfl rfl rfl hc0 ?_
            ((conv => whnf); repeat ((first | refine CodeS.step ?_ | refine RegS.step ?_ | refine RegXS.step ?_); (conv => whnf)))
            refine ⟨_, loadK rfl W5 rfl hb1, ?_⟩; ((conv => whnf); repeat ((first | refine CodeS.step ?_ | refine RegS.step ?_ | refine RegXS.step ?_); (conv => whnf)))
            refine ⟨.inl rfl, ?_⟩; ((conv => whnf); repeat ((first | refine CodeS.step ?_ | refine RegS.step ?_ | refine RegXS.step ?_); (conv => whnf)))
            refine ⟨_, rfl, fun hc => ?_, fun hc => ?_⟩
            · rw [show (b0 != b1) = true from hc] at fin
              ((conv => whnf); repeat ((first | refine CodeS.step ?_ | refine RegS.step ?_ | refine RegXS.step ?_); (conv => whnf)))
              refine storeK rfl G4.i rfl rfl rfl (by show 0 + j * 1 + 1 ≤ (vals l').length; simp [vals]; omega) rfl fun h5 u5 => ?_; ((conv => whnf); repeat ((first | refine CodeS.step ?_ | refine RegS.step ?_ | refine RegXS.step ?_); (conv => whnf)))
              refine indexArrK (j := 1) rfl rfl rfl rfl (by decide) ?_
              ((conv => whnf); repeat ((first | refine CodeS.step ?_ | refine RegS.step ?_ | refine RegXS.step ?_); (conv => whnf)))
              refine ⟨_, loadK rfl (u5.keep (by omega) W3) rfl rfl, ?_⟩; ((conv => whnf); repeat ((first | refine CodeS.step ?_ | refine RegS.step ?_ | refine RegXS.step ?_); (conv => whnf)))
              refine indexK rfl rfl rfl rfl hc0 ?_
              ((conv => whnf); repeat ((first | refine CodeS.step ?_ | refine RegS.step ?_ | refine RegXS.step ?_); (conv => whnf)))
              refine ⟨_, loadK rfl (u5.keep (by omega) W5) rfl hb1, ?_⟩; ((conv => whnf); repeat ((first | refine CodeS.step ?_ | refine RegS.step ?_ | refine RegXS.step ?_); (conv => whnf)))
              refine ⟨_, rfl, fun hc => ?_, fun hc => ?_⟩
              · rw [hc] at fin
                ((conv => whnf); repeat ((first | refine CodeS.step ?_ | refine RegS.step ?_ | refine RegXS.step ?_); (conv => whnf)))
                refine storeK rfl u5.get rfl rfl rfl (by show 0 + j * 1 + 1 ≤ (splice (vals l') (0 + j * 1) [u8 0]).length; rw [splice_len (by show 0 + j * 1 + 1 ≤ (vals l').length; simp [vals]; omega)]; exact by show 0 + j * 1 + 1 ≤ (vals l').length; simp [vals]; omega) rfl fun h6 u6 => ?_; ((conv => whnf); repeat ((first | refine CodeS.step ?_ | refine RegS.step ?_ | refine RegXS.step ?_); (conv => whnf)))
                refine ⟨_, addK (b := 1) rfl rfl (by omega), ?_⟩; ((conv => whnf); repeat ((first | refine CodeS.step ?_ | refine RegS.step ?_ | refine RegXS.step ?_); (conv => whnf)))
                exact ⟨(j + 1, o', l'.set j (finL A j l'[j])), by simp only; omega, nextIn hjl h6 (by rw [fin]; exact Upd.twice (by show 0 + j * 1 + 1 ≤ (vals l').length; simp [vals]; omega) u5 u6), rfl, rfl, rfl, rfl, rfl, rfl, trivial⟩
              · rw [hc] at fin
                ((conv => whnf); repeat ((first | refine CodeS.step ?_ | refine RegS.step ?_ | refine RegXS.step ?_); (conv => whnf)))
                refine ⟨_, addK (b := 1) rfl rfl (by omega), ?_⟩; ((conv => whnf); repeat ((first | refine CodeS.step ?_ | refine RegS.step ?_ | refine RegXS.step ?_); (conv => whnf)))
                exact ⟨(j + 1, o', l'.set j (finL A j l'[j])), by simp only; omega, nextIn hjl h5 (by rw [fin]; exact Upd.once (by show 0 + j * 1 + 1 ≤ (vals l').length; simp [vals]; omega) u5), rfl, rfl, rfl, rfl, rfl, rfl, trivial⟩
            · rw [show (b0 != b1) = false from hc] at fin
              ((conv => whnf); repeat ((first | refine CodeS.step ?_ | refine RegS.step ?_ | refine RegXS.step ?_); (conv => whnf)))
              refine ⟨_, addK (b := 1) rfl rfl (by omega), ?_⟩; ((conv => whnf); repeat ((first | refine CodeS.step ?_ | refine RegS.step ?_ | refine RegXS.step ?_); (conv => whnf)))
              exact ⟨(j + 1, o', l'.set j (finL A j l'[j])), by simp only; omega, nextIn hjl h4 (by rw [fin]; exact Upd.noop G4.i (vals_at' hjl)), rfl, rfl, rfl, rfl, rfl, rfl, trivial⟩
          · rw [hc] at fin
            rw [hc]
            ((conv => whnf); repeat ((first | refine CodeS.step ?_ | refine RegS.step ?_ | refine RegXS.step ?_); (conv => whnf)))
            refine ⟨false, rfl, (fun hc => nomatch hc), fun _ => ?_⟩; ((conv => whnf); repeat ((first | refine CodeS.step ?_ | refine RegS.step ?_ | refine RegXS.step ?_); (conv => whnf)))
            refine ⟨_, addK (b := 1) rfl rfl (by omega), ?_⟩; ((conv => whnf); repeat ((first | refine CodeS.step ?_ | refine RegS.step ?_ | refine RegXS.step ?_); (conv => whnf)))
            exact ⟨(j + 1, o', l'.set j (finL A j l'[j])), by simp only; omega, nextIn hjl h4 (by rw [fin]; exact Upd.noop G4.i (vals_at' hjl)), rfl, rfl, rfl, rfl, rfl, rfl, trivial⟩

        · have hjn : j = l.length := by have := ge_of_ltI hc; omega
          have fin := hfin o'
          ((conv => whnf); repeat ((first | refine CodeS.step ?_ | refine RegS.step ?_ | refine RegXS.step ?_); (conv => whnf)))
          refine ⟨_, rfl, fun hc => ?_, fun hc => ?_⟩
          · rw [hc] at fin
            ((conv => whnf); repeat ((first | refine CodeS.step ?_ | refine RegS.step ?_ | refine RegXS.step ?_); (conv => whnf)))
            refine indexArrK (j := 0) rfl rfl rfl rfl (by decide) ?_
            ((conv => whnf); repeat ((first | refine CodeS.step ?_ | refine RegS.step ?_ | refine RegXS.step ?_); (conv => whnf)))
            refine ⟨_, loadK rfl W3 rfl rfl, ?_⟩; ((conv => whnf); repeat ((first | refine CodeS.step ?_ | refine RegS.step ?_ | refine RegXS.step ?_); (conv => whnf)))
            refine ⟨.inr (.inr (loadK rfl W3 rfl rfl)), ?_⟩; ((conv => whnf); repeat ((first | refine CodeS.step ?_ | refine RegS.step ?_ | refine RegXS.step ?_); (conv => whnf)))
            refine indexK rfl rfl rfl rfl hc0 ?_
            ((conv => whnf); repeat ((first | refine CodeS.step ?_ | refine RegS.step ?_ | refine RegXS.step ?_); (conv => whnf)))
            refine ⟨_, loadK rfl W4 rfl hb0, ?_⟩; ((conv => whnf); repeat ((first | refine CodeS.step ?_ | refine RegS.step ?_ | refine RegXS.step ?_); (conv => whnf)))
            refine ⟨.inl rfl, ?_⟩; ((conv => whnf); repeat ((first | refine CodeS.step ?_ | refine RegS.step ?_ | refine RegXS.step ?_); (conv => whnf)))
            refine indexArrK (j := 1) rfl rfl rfl rfl (by decide) ?_
            ((conv => whnf); repeat ((first | refine CodeS.step ?_ | refine RegS.step ?_ | refine RegXS.step ?_); (conv => whnf)))
            refine ⟨_, loadK rfl W3 rfl rfl, ?_⟩; ((conv => whnf); repeat ((first | refine CodeS.step ?_ | refine RegS.step ?_ | refine RegXS.step ?_); (conv => whnf)))
            refine ⟨.inr (.inr (loadK rfl W3 rfl rfl)), ?_⟩; ((conv => whnf); repeat ((first | refine CodeS.step ?_ | refine RegS.step ?_ | refine RegXS.step ?_); (conv => whnf)))
            refine indexK rfl rfl rfl rfl hc0 ?_
            ((conv => whnf); repeat ((first | refine CodeS.step ?_ | refine RegS.step ?_ | refine RegXS.step ?_); (conv => whnf)))
            refine ⟨_, loadK rfl W5 rfl hb1, ?_⟩; ((conv => whnf); repeat ((first | refine CodeS.step ?_ | refine RegS.step ?_ | refine RegXS.step ?_); (conv => whnf)))
            refine ⟨.inl rfl, ?_⟩; ((conv => whnf); repeat ((first | refine CodeS.step ?_ | refine RegS.step ?_ | refine RegXS.step ?_); (conv => whnf)))
            refine ⟨_, rfl, fun hc => ?_, fun hc => ?_⟩
            · rw [show (b0 != b1) = true from hc] at fin
              ((conv => whnf); repeat ((first | refine CodeS.step ?_ | refine RegS.step ?_ | refine RegXS.step ?_); (conv => whnf)))
              refine storeK rfl G4.g rfl rfl rfl (by show 1 + 1 ≤ 3; decide) rfl fun h5 u5 => ?_; ((conv => whnf); repeat ((first | refine CodeS.step ?_ | refine RegS.step ?_ | refine RegXS.step ?_); (conv => whnf)))
              refine indexArrK (j := 1) rfl rfl rfl rfl (by decide) ?_
              ((conv => whnf); repeat ((first | refine CodeS.step ?_ | refine RegS.step ?_ | refine RegXS.step ?_); (conv => whnf)))
              refine ⟨_, loadK rfl (u5.keep (by omega) W3) rfl rfl, ?_⟩; ((conv => whnf); repeat ((first | refine CodeS.step ?_ | refine RegS.step ?_ | refine RegXS.step ?_); (conv => whnf)))
              refine indexK rfl rfl rfl rfl hc0 ?_
              ((conv => whnf); repeat ((first | refine CodeS.step ?_ | refine RegS.step ?_ | refine RegXS.step ?_); (conv => whnf)))
              refine ⟨_, loadK rfl (u5.keep (by omega) W5) rfl hb1, ?_⟩; ((conv => whnf); repeat ((first | refine CodeS.step ?_ | refine RegS.step ?_ | refine RegXS.step ?_); (conv => whnf)))
              refine ⟨_, rfl, fun hc => ?_, fun hc => ?_⟩
              · rw [hc] at fin
                ((conv => whnf); repeat ((first | refine CodeS.step ?_ | refine RegS.step ?_ | refine RegXS.step ?_); (conv => whnf)))
                refine storeK rfl u5.get rfl rfl rfl (by show 1 + 1 ≤ (splice [u8 k, u8 o', .slice (some ⟨gi, 0, none⟩) l'.length l'.length] 1 [u8 0]).length; rw [splice_len (by show 1 + 1 ≤ 3; decide)]; exact by show 1 + 1 ≤ 3; decide) rfl fun h6 u6 => ?_; ((conv => whnf); repeat ((first | refine CodeS.step ?_ | refine RegS.step ?_ | refine RegXS.step ?_); (conv => whnf)))
                refine ⟨_, addK (b := 1) rfl rfl (by omega), ?_⟩; ((conv => whnf); repeat ((first | refine CodeS.step ?_ | refine RegS.step ?_ | refine RegXS.step ?_); (conv => whnf)))
                exact ⟨(j + 1, finL A j o', l'), by simp only; omega, nextOut hjn h6 (by rw [fin]; exact Upd.twice (by show 1 + 1 ≤ 3; decide) u5 u6), rfl, rfl, rfl, rfl, rfl, rfl, trivial⟩
              · rw [hc] at fin
                ((conv => whnf); repeat ((first | refine CodeS.step ?_ | refine RegS.step ?_ | refine RegXS.step ?_); (conv => whnf)))
                refine ⟨_, addK (b := 1) rfl rfl (by omega), ?_⟩; ((conv => whnf); repeat ((first | refine CodeS.step ?_ | refine RegS.step ?_ | refine RegXS.step ?_); (conv => whnf)))
                exact ⟨(j + 1, finL A j o', l'), by simp only; omega, nextOut hjn h5 (by rw [fin]; exact Upd.once (by show 1 + 1 ≤ 3; decide) u5), rfl, rfl, rfl, rfl, rfl, rfl, trivial⟩
            · rw [show (b0 != b1) = false from hc] at fin
              ((conv => whnf); repeat ((first | refine CodeS.step ?_ | refine RegS.step ?_ | refine RegXS.step ?_); (conv => whnf)))
              refine ⟨_, addK (b := 1) rfl rfl (by omega), ?_⟩; ((conv => whnf); repeat ((first | refine CodeS.step ?_ | refine RegS.step ?_ | refine RegXS.step ?_); (conv => whnf)))
              exact ⟨(j + 1, finL A j o', l'), by simp only; omega, nextOut hjn h4 (by rw [fin]; exact Upd.noop G4.g (rfl)), rfl, rfl, rfl, rfl, rfl, rfl, trivial⟩
          · rw [hc] at fin
            rw [hc]
            ((conv => whnf); repeat ((first | refine CodeS.step ?_ | refine RegS.step ?_ | refine RegXS.step ?_); (conv => whnf)))
            refine ⟨false, rfl, (fun hc => nomatch hc), fun _ => ?_⟩; ((conv => whnf); repeat ((first | refine CodeS.step ?_ | refine RegS.step ?_ | refine RegXS.step ?_); (conv => whnf)))
            refine ⟨_, addK (b := 1) rfl rfl (by omega), ?_⟩; ((conv => whnf); repeat ((first | refine CodeS.step ?_ | refine RegS.step ?_ | refine RegXS.step ?_); (conv => whnf)))
            exact ⟨(j + 1, finL A j o', l'), by simp only; omega, nextOut hjn h4 (by rw [fin]; exact Upd.noop G4.g (rfl)), rfl, rfl, rfl, rfl, rfl, rfl, trivial⟩
      · replace hc := ge_of_ltI hc
        obtain rfl : j = l.length + 1 := by omega
        rw [if_pos (by omega)] at O4
        rw [List.drop_eq_nil_of_le (by omega), List.take_of_length_le (by omega), finGo, List.append_nil] at I4
        ((conv => whnf); repeat ((first | refine CodeS.step ?_ | refine RegS.step ?_ | refine RegXS.step ?_); (conv => whnf)))
        rw [O4] at G4
        rw [I4] at G4
        exact ⟨rfl, G4, S4⟩
end
end Go.Proofs.YtedefohdeignpaaDoor
