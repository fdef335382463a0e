/-
  ImpliesGate: what it computes.
-/
import Derived.Test.YtedefohdeignpaaDoorFl1
import Derived.Test.YtedefohdeignpaaDoorAbsYf
import Derived.Test.YtedefohdeignpaaDoorBits
namespace Go.Proofs.YtedefohdeignpaaDoor
open Go.Abs
set_option maxRecDepth 100000

/-- The i-th of the given values, as the law takes them. -/
def pickL (vs : List Int) (i : Nat) : Int := match vs[i]? with
  | some x => x % 4
  | none => 2

/-- The first i values of row b fit the given ones. -/
def fitTo (l : List Int) (b i : Nat) : Bool := (List.range i).all fun j => decide (1 < l.getD j 0) || l.getD j 0 == bitL b j

/-- The first i bits of b. -/
def bitsTo (b i : Nat) : List Int := (List.range i).map (bitL b)

def meet2 (a b : Int) : Int := if a = b then a else 2

/-- What two rows have in common; the empty list: none. -/
def joinL (c x : List Int) : List Int := match c with
  | [] => x
  | _ :: _ => List.zipWith meet2 c x

/-- One row more; the empty list: none yet. -/
def stepL (k o : Int) (l : List Int) (m b : Nat) (c : List Int) : List Int :=
  if fitTo l b m = true ∧ ¬ (o < 2 ∧ o ≠ evalL k (bitsTo b m)) then
    joinL c (bitsTo b m ++ [evalL k (bitsTo b m)])
  else c

def meetTo (k o : Int) (l : List Int) (m : Nat) : Nat → List Int
  | 0 => []
  | b + 1 => stepL k o l m b (meetTo k o l m b)

theorem fitTo_succ (l : List Int) (b i : Nat) : fitTo l b (i + 1) = (fitTo l b i && (decide (1 < l.getD i 0) || l.getD i 0 == bitL b i)) := by
  simp [fitTo, List.range_succ]
theorem bitsTo_succ (b i : Nat) : bitsTo b (i + 1) = bitsTo b i ++ [bitL b i] := by simp [bitsTo, List.range_succ]
theorem bitsTo_length (b i : Nat) : (bitsTo b i).length = i := by simp [bitsTo]
theorem bitL_nonneg (b j : Nat) : 0 ≤ bitL b j := Int.natCast_nonneg _
theorem bitsTo_nonneg (b i : Nat) : ∀ x ∈ bitsTo b i, 0 ≤ x := by
  intro x hx
  obtain ⟨j, _, rfl⟩ := List.mem_map.1 hx
  exact bitL_nonneg b j

theorem splice_vals {l : List Int} {j : Nat} {x : Int} (hj : j < l.length) : splice (vals l) (0 + j * 1) [u8 x] = vals (l.set j x) := by
  rw [splice_set (by rw [vals_len]; omega), Nat.zero_add, Nat.mul_one]
  unfold vals
  rw [List.map_set]
theorem vals_at0 {l : List Int} {j : Nat} (hj : j < l.length) : (vals l)[0 + j * 1]? = some (u8 (l.getD j 0)) := by
  rw [Nat.zero_add, Nat.mul_one]
  unfold vals
  rw [List.getElem?_map, List.getElem?_eq_getElem hj, List.getD, List.getElem?_eq_getElem hj]
  rfl
theorem vals_one : ∀ (l : List Int), ∀ e ∈ vals l, (cl e).length = 1 := by
  intro l e m
  obtain ⟨a, _, rfl⟩ := List.mem_map.1 m
  rfl

/-- The head of a slice of known place. -/
theorem sliceToK {P : Program} {ρ : Operand → Value} {d : Option Tmp} {ty : TypeId} {pos : String} {af : Array Edge} {gd : Option (Nat × Bool)} {t e : TypeId} {x hi : Operand} {g off s n cap m : Nat} {kk : IntKind} {K : Value → Prop}
    (hu : P.underlying t = some (.slice e)) (hs : szOf P e = some s) (hx : ρ x = .slice (some ⟨g, off, none⟩) n cap) (hh : ρ hi = .int kk (Int.ofNat m)) (hm : m ≤ cap) (hk : K (.slice (some ⟨g, off + 0 * s, none⟩) (m - 0) (cap - 0))) :
    ∃ v, apure P ρ { dst := d, op := .slice t x none (some hi) none, type := ty, pos := pos, after := af, guard := gd } = some v ∧ K v := by
  refine ⟨_, ?_, hk⟩
  unfold apure
  have hb : bnds n cap none (some (.int kk (Int.ofNat m))) none = some (0, m, cap) := by
    have : bnd (.int kk (Int.ofNat m)) cap = some m := if_pos ⟨Int.natCast_nonneg m, Int.ofNat_le.2 hm⟩
    unfold bnds
    simp only [this]
  simp only [hu, hx, hs, Option.map_some, Option.map_none, hh, hb]



theorem lives_fn : FnV Tryd.prog NG vars 8 #[] (.bool true) := by
  obtain ⟨h', e⟩ := isTrue_iff lives24
  have c := (runFn_sound hM hP (fun f vs h v e => orcExt_sound f vs h v e) 60 _ _ _ _ _ e).1
  refine ⟨PureV.flatB rfl, fun h b => c.lift (by simp) rfl (bears_vars (hasSize b) (hasVars b))⟩

set_option maxHeartbeats 8000000 in
theorem implies_gate_run {k n : Nat} (hk : k < 256) {vs : List Int} (hvs : ∀ x ∈ vs, 0 ≤ x ∧ x < 256) {K M : Nat} (hK : k % 11 + 1 = K) (hM' : nGate K n = M) (hM5 : M ≤ 5) {L6 : List Int} (hL6 : L6 = (List.range 6).map (pickL vs)) (hL0 : ∀ x ∈ L6, 0 ≤ x)
    (final : gateVal (gateL (Int.ofNat K) (L6.getD 5 0) (L6.take M)) = (match meetTo (Int.ofNat K) (L6.getD 5 0) L6 M (2 ^ M) with
      | [] => gateVal none
      | c => gateVal (some (c.getD M 0, c.take M)))) :
    FnV Tryd.prog NG vars 3 #[u8 (Int.ofNat k), u8 (Int.ofNat n), FL 1 (vals vs)] (.bool true) := by
  have hL6n : L6.length = 6 := by rw [hL6]; simp
  refine fnF hM Tryd.func3 rfl (hP _ _ rfl Tryd.func3) (Nat.le_of_ble_eq_true rfl) (by (repeat (first | exact PureV.flatB rfl | exact PureV.ints | assumption | exact PureV.fe | refine PureV.tup ?_ | refine PureV.agg ?_ | refine AllPure.cons ?_ ?_ | exact AllPure.nil | refine PureV.list (fun _ => ?_) | refine PureV.fp ?_ | refine PureV.func ?_ ?_))) fun h0 O => ?_; ((conv => whnf); repeat ((first | refine CodeS.step ?_ | refine RegS.step ?_ | refine RegXS.step ?_); (conv => whnf)))
  rw [vals_len]
  refine ⟨_, rfl, fun hc => ?_, fun hc => ?_⟩
  · ((conv => whnf); repeat ((first | refine CodeS.step ?_ | refine RegS.step ?_ | refine RegXS.step ?_); (conv => whnf)))
    refine FnV.go (lives_fn) O ?_; ((conv => whnf); repeat ((first | refine CodeS.step ?_ | refine RegS.step ?_ | refine RegXS.step ?_); (conv => whnf)))
    exact O.ret
  ((conv => whnf); repeat ((first | refine CodeS.step ?_ | refine RegS.step ?_ | refine RegXS.step ?_); (conv => whnf)))
  refine FnV.go (gates_fn hk) O ?_; ((conv => whnf); repeat ((first | refine CodeS.step ?_ | refine RegS.step ?_ | refine RegXS.step ?_); (conv => whnf)))
  rw [hK, hM']
  (first | refine O.new (makeK (b := 1) rfl rfl rfl rfl rfl rfl (n := 6) rfl rfl (by decide) (by decide)) fun g6 h O => ?_ | refine O.newX (makeK (b := 1) rfl rfl rfl rfl rfl rfl (n := 6) rfl rfl (by decide) (by decide)) fun g6 h O => ?_); ((conv => whnf); repeat ((first | refine CodeS.step ?_ | refine RegS.step ?_ | refine RegXS.step ?_); (conv => whnf)))
  refine countG hM (by kernel_rfl) (nn := 195) 6 (fun i (l : List Int) h' => l.length = 6 ∧ (∀ j, j < i → l[j]? = some (pickL vs j)) ∧ Own vars h0 [(some g6, .cells (vals l) false)] h')
    (fun i _ => [(2, FL 1 (vals vs)), (7, u8 (Int.ofNat K)), (8, .int .i64 (Int.ofNat M)), (9, .slice (some ⟨g6, 0, none⟩) 6 6), (10, .int .i64 (Int.ofNat i))])
    rfl (List.replicate 6 0) ⟨rfl, fun j hj => absurd hj (Nat.not_lt_zero j), O⟩ ⟨rfl, rfl, rfl, rfl, rfl, trivial⟩ ?_ ?_
  · rintro i l base h1 hi ⟨hl, hp, O⟩
    ((conv => whnf); repeat ((first | refine CodeS.step ?_ | refine RegS.step ?_ | refine RegXS.step ?_); (conv => whnf)))
    refine ⟨_, rfl, fun _ => ?_, (fun hx => nomatch (hx.symm.trans ((show ltI (Int.ofNat i) 6 = true from lt_nat hi))))⟩; ((conv => whnf); repeat ((first | refine CodeS.step ?_ | refine RegS.step ?_ | refine RegXS.step ?_); (conv => whnf)))
    refine indexK (s := 1) rfl rfl rfl rfl (hi) ?_; ((conv => whnf); repeat ((first | refine CodeS.step ?_ | refine RegS.step ?_ | refine RegXS.step ?_); (conv => whnf)))
    (first | refine O.store (n := 1) (.head _) rfl rfl rfl rfl (by rw [vals_len, hl]; omega) rfl (splice_vals (by omega)) fun h O => ?_ | refine O.store (n := 1) (.tail _ (.head _)) rfl rfl rfl rfl (by rw [vals_len, hl]; omega) rfl (splice_vals (by omega)) fun h O => ?_ | refine O.store (n := 1) (.tail _ (.tail _ (.head _))) rfl rfl rfl rfl (by rw [vals_len, hl]; omega) rfl (splice_vals (by omega)) fun h O => ?_ | refine O.store (n := 1) (.tail _ (.tail _ (.tail _ (.head _)))) rfl rfl rfl rfl (by rw [vals_len, hl]; omega) rfl (splice_vals (by omega)) fun h O => ?_ | refine O.store (n := 1) (.tail _ (.tail _ (.tail _ (.tail _ (.head _))))) rfl rfl rfl rfl (by rw [vals_len, hl]; omega) rfl (splice_vals (by omega)) fun h O => ?_ | refine O.store (n := 1) (.tail _ (.tail _ (.tail _ (.tail _ (.tail _ (.head _)))))) rfl rfl rfl rfl (by rw [vals_len, hl]; omega) rfl (splice_vals (by omega)) fun h O => ?_ | refine O.store (n := 1) (.tail _ (.tail _ (.tail _ (.tail _ (.tail _ (.tail _ (.head _))))))) rfl rfl rfl rfl (by rw [vals_len, hl]; omega) rfl (splice_vals (by omega)) fun h O => ?_); ((conv => whnf); repeat ((first | refine CodeS.step ?_ | refine RegS.step ?_ | refine RegXS.step ?_); (conv => whnf)))
    have hadd : ∀ l' : List Int, l'.length = 6 → (∀ j, j < i → l'[j]? = some (pickL vs j)) → l'[i]? = some (pickL vs i) → l'.length = 6 ∧ (∀ j, j < i + 1 → l'[j]? = some (pickL vs j)) := by
      intro l' h1 h2 h3
      refine ⟨h1, fun j hj => ?_⟩
      rcases Nat.lt_succ_iff_lt_or_eq.1 hj with q | q
      · exact h2 j q
      · subst q; exact h3
    rw [vals_len]
    refine ⟨_, rfl, fun hc => ?_, fun hc => ?_⟩
    · replace hc := lt_of_ltI hc
      have hget : vs[i]? = some vs[i] := List.getElem?_eq_getElem hc
      have hv := hvs vs[i] (List.getElem_mem hc)
      obtain ⟨a, ha⟩ : ∃ a : Nat, vs[i] = Int.ofNat a := ⟨vs[i].toNat, by have := hv.1; simp; omega⟩
      ((conv => whnf); repeat ((first | refine CodeS.step ?_ | refine RegS.step ?_ | refine RegXS.step ?_); (conv => whnf)))
      refine flAtK rfl rfl rfl rfl (u := u8 (Int.ofNat a)) (by unfold vals; rw [List.getElem?_map, hget, ha]; rfl) ?_; ((conv => whnf); repeat ((first | refine CodeS.step ?_ | refine RegS.step ?_ | refine RegXS.step ?_); (conv => whnf)))
      (first | refine ⟨_, (rfl : aread _ _ _ _ = some _), ?_⟩ | refine ⟨_, loadK rfl (O.at (.head _)) rfl rfl, ?_⟩ | refine ⟨_, loadK rfl (O.at (.tail _ (.head _))) rfl rfl, ?_⟩ | refine ⟨_, loadK rfl (O.at (.tail _ (.tail _ (.head _)))) rfl rfl, ?_⟩ | refine ⟨_, loadK rfl (O.at (.tail _ (.tail _ (.tail _ (.head _))))) rfl rfl, ?_⟩ | refine ⟨_, loadK rfl (O.at (.tail _ (.tail _ (.tail _ (.tail _ (.head _)))))) rfl rfl, ?_⟩ | refine ⟨_, loadK rfl (O.at (.tail _ (.tail _ (.tail _ (.tail _ (.tail _ (.head _))))))) rfl rfl, ?_⟩ | refine ⟨_, loadK rfl (O.at (.tail _ (.tail _ (.tail _ (.tail _ (.tail _ (.tail _ (.head _)))))))) rfl rfl, ?_⟩ | refine ⟨_, loadAggK rfl (O.at (.head _)) rfl rfl (Nat.le_of_ble_eq_true rfl) rfl, ?_⟩ | refine ⟨_, loadAggK rfl (O.at (.tail _ (.head _))) rfl rfl (Nat.le_of_ble_eq_true rfl) rfl, ?_⟩ | refine ⟨_, loadAggK rfl (O.at (.tail _ (.tail _ (.head _)))) rfl rfl (Nat.le_of_ble_eq_true rfl) rfl, ?_⟩ | refine ⟨_, loadAggK rfl (O.at (.tail _ (.tail _ (.tail _ (.head _))))) rfl rfl (Nat.le_of_ble_eq_true rfl) rfl, ?_⟩ | refine ⟨_, loadAggK rfl (O.at (.tail _ (.tail _ (.tail _ (.tail _ (.head _)))))) rfl rfl (Nat.le_of_ble_eq_true rfl) rfl, ?_⟩ | refine ⟨_, loadAggK rfl (O.at (.tail _ (.tail _ (.tail _ (.tail _ (.tail _ (.head _))))))) rfl rfl (Nat.le_of_ble_eq_true rfl) rfl, ?_⟩ | refine ⟨_, loadAggK rfl (O.at (.tail _ (.tail _ (.tail _ (.tail _ (.tail _ (.tail _ (.head _)))))))) rfl rfl (Nat.le_of_ble_eq_true rfl) rfl, ?_⟩); ((conv => whnf); repeat ((first | refine CodeS.step ?_ | refine RegS.step ?_ | refine RegXS.step ?_); (conv => whnf)))
      refine ⟨_, remK (b := 4) rfl rfl (by decide), ?_⟩; ((conv => whnf); repeat ((first | refine CodeS.step ?_ | refine RegS.step ?_ | refine RegXS.step ?_); (conv => whnf)))
      refine indexK (s := 1) rfl rfl rfl rfl (hi) ?_; ((conv => whnf); repeat ((first | refine CodeS.step ?_ | refine RegS.step ?_ | refine RegXS.step ?_); (conv => whnf)))
      (first | refine O.store (n := 1) (.head _) rfl rfl rfl rfl (by rw [vals_len, List.length_set, hl]; omega) rfl (splice_vals (by rw [List.length_set]; omega)) fun h O => ?_ | refine O.store (n := 1) (.tail _ (.head _)) rfl rfl rfl rfl (by rw [vals_len, List.length_set, hl]; omega) rfl (splice_vals (by rw [List.length_set]; omega)) fun h O => ?_ | refine O.store (n := 1) (.tail _ (.tail _ (.head _))) rfl rfl rfl rfl (by rw [vals_len, List.length_set, hl]; omega) rfl (splice_vals (by rw [List.length_set]; omega)) fun h O => ?_ | refine O.store (n := 1) (.tail _ (.tail _ (.tail _ (.head _)))) rfl rfl rfl rfl (by rw [vals_len, List.length_set, hl]; omega) rfl (splice_vals (by rw [List.length_set]; omega)) fun h O => ?_ | refine O.store (n := 1) (.tail _ (.tail _ (.tail _ (.tail _ (.head _))))) rfl rfl rfl rfl (by rw [vals_len, List.length_set, hl]; omega) rfl (splice_vals (by rw [List.length_set]; omega)) fun h O => ?_ | refine O.store (n := 1) (.tail _ (.tail _ (.tail _ (.tail _ (.tail _ (.head _)))))) rfl rfl rfl rfl (by rw [vals_len, List.length_set, hl]; omega) rfl (splice_vals (by rw [List.length_set]; omega)) fun h O => ?_ | refine O.store (n := 1) (.tail _ (.tail _ (.tail _ (.tail _ (.tail _ (.tail _ (.head _))))))) rfl rfl rfl rfl (by rw [vals_len, List.length_set, hl]; omega) rfl (splice_vals (by rw [List.length_set]; omega)) fun h O => ?_); ((conv => whnf); repeat ((first | refine CodeS.step ?_ | refine RegS.step ?_ | refine RegXS.step ?_); (conv => whnf)))
      refine ⟨_, addK (b := 1) rfl rfl (by omega), ?_⟩; ((conv => whnf); repeat ((first | refine CodeS.step ?_ | refine RegS.step ?_ | refine RegXS.step ?_); (conv => whnf)))
      have hpk : pickL vs i = Int.ofNat (a % 4) := by unfold pickL; rw [hget]; simp only [ha]; rfl
      obtain ⟨q1, q2⟩ := hadd ((l.set i 2).set i (Int.ofNat (a % 4))) (by simp [hl]) (fun j hj => by rw [List.getElem?_set_ne (by omega), List.getElem?_set_ne (by omega)]; exact hp j hj) (by rw [List.getElem?_set_self (by rw [List.length_set]; omega), hpk])
      exact ⟨_, ⟨q1, q2, O⟩, rfl, rfl, rfl, rfl, rfl, trivial⟩
    · replace hc := ge_of_ltI hc
      have hpk : pickL vs i = 2 := by unfold pickL; rw [List.getElem?_eq_none hc]
      ((conv => whnf); repeat ((first | refine CodeS.step ?_ | refine RegS.step ?_ | refine RegXS.step ?_); (conv => whnf)))
      refine ⟨_, addK (b := 1) rfl rfl (by omega), ?_⟩; ((conv => whnf); repeat ((first | refine CodeS.step ?_ | refine RegS.step ?_ | refine RegXS.step ?_); (conv => whnf)))
      obtain ⟨q1, q2⟩ := hadd (l.set i 2) (by simp [hl]) (fun j hj => by rw [List.getElem?_set_ne (by omega)]; exact hp j hj) (by rw [List.getElem?_set_self (by omega), hpk])
      exact ⟨_, ⟨q1, q2, O⟩, rfl, rfl, rfl, rfl, rfl, trivial⟩
  · rintro l base h1 ⟨hl, hp, O⟩
    obtain rfl : l = L6 := by
      apply List.ext_getElem?
      intro j
      by_cases q : j < 6
      · rw [hp j q, hL6, List.getElem?_map, List.getElem?_range q]; rfl
      · rw [List.getElem?_eq_none (by omega), List.getElem?_eq_none (by omega)]
    clear hp hL6 hl
    have hat : ∀ j, j < 6 → (vals l)[0 + j * 1]? = some (u8 (l.getD j 0)) := fun j hj => vals_at0 (by omega)
    ((conv => whnf); repeat ((first | refine CodeS.step ?_ | refine RegS.step ?_ | refine RegXS.step ?_); (conv => whnf)))
    refine ⟨_, rfl, (fun hx => nomatch (hx.symm.trans ((show ltI (Int.ofNat 6) 6 = false from lt_end 6)))), fun _ => ?_⟩; ((conv => whnf); repeat ((first | refine CodeS.step ?_ | refine RegS.step ?_ | refine RegXS.step ?_); (conv => whnf)))
    refine indexK (s := 1) (j := 5) rfl rfl rfl rfl (by decide) ?_; ((conv => whnf); repeat ((first | refine CodeS.step ?_ | refine RegS.step ?_ | refine RegXS.step ?_); (conv => whnf)))
    (first | refine ⟨_, loadK rfl (O.at (.head _)) rfl (hat 5 (by decide)), ?_⟩ | refine ⟨_, loadK rfl (O.at (.tail _ (.head _))) rfl (hat 5 (by decide)), ?_⟩ | refine ⟨_, loadK rfl (O.at (.tail _ (.tail _ (.head _)))) rfl (hat 5 (by decide)), ?_⟩ | refine ⟨_, loadK rfl (O.at (.tail _ (.tail _ (.tail _ (.head _))))) rfl (hat 5 (by decide)), ?_⟩ | refine ⟨_, loadK rfl (O.at (.tail _ (.tail _ (.tail _ (.tail _ (.head _)))))) rfl (hat 5 (by decide)), ?_⟩ | refine ⟨_, loadK rfl (O.at (.tail _ (.tail _ (.tail _ (.tail _ (.tail _ (.head _))))))) rfl (hat 5 (by decide)), ?_⟩ | refine ⟨_, loadK rfl (O.at (.tail _ (.tail _ (.tail _ (.tail _ (.tail _ (.tail _ (.head _)))))))) rfl (hat 5 (by decide)), ?_⟩); ((conv => whnf); repeat ((first | refine CodeS.step ?_ | refine RegS.step ?_ | refine RegXS.step ?_); (conv => whnf)))
    (first | refine ⟨.inl rfl, ?_⟩ | refine ⟨.inr (.inr rfl), ?_⟩ | refine ⟨.inr (.inr (loadK rfl (O.at (.head _)) rfl rfl)), ?_⟩ | refine ⟨.inr (.inr (loadK rfl (O.at (.tail _ (.head _))) rfl rfl)), ?_⟩ | refine ⟨.inr (.inr (loadK rfl (O.at (.tail _ (.tail _ (.head _)))) rfl rfl)), ?_⟩ | refine ⟨.inr (.inr (loadK rfl (O.at (.tail _ (.tail _ (.tail _ (.head _))))) rfl rfl)), ?_⟩ | refine ⟨.inr (.inr (loadK rfl (O.at (.tail _ (.tail _ (.tail _ (.tail _ (.head _)))))) rfl rfl)), ?_⟩ | refine ⟨.inr (.inr (loadK rfl (O.at (.tail _ (.tail _ (.tail _ (.tail _ (.tail _ (.head _))))))) rfl rfl)), ?_⟩ | refine ⟨.inr (.inr (loadK rfl (O.at (.tail _ (.tail _ (.tail _ (.tail _ (.tail _ (.tail _ (.head _)))))))) rfl rfl)), ?_⟩ | refine ⟨.inl (Ext.refl _), ?_⟩ | refine ⟨.inr (by kernel_rfl), ?_⟩ | refine ⟨.inl (by kernel_rfl), ?_⟩); ((conv => whnf); repeat ((first | refine CodeS.step ?_ | refine RegS.step ?_ | refine RegXS.step ?_); (conv => whnf)))
    refine sliceToK (s := 1) rfl rfl rfl rfl (by omega) ?_; ((conv => whnf); repeat ((first | refine CodeS.step ?_ | refine RegS.step ?_ | refine RegXS.step ?_); (conv => whnf)))
    generalize ho : l.getD 5 0 = o at final
    have hKn : (0 : Int) ≤ Int.ofNat K := Int.natCast_nonneg K
    have hK256 : Int.ofNat K < 256 := by have := Nat.mod_lt k (show 0 < 11 by decide); simp only [Int.ofNat_eq_natCast]; omega
    have hpow : 2 ^ M ≤ 2 ^ 5 := Nat.pow_le_pow_right (by decide) hM5
    refine countG hM (by kernel_rfl) (nn := 195) (2 ^ M) (fun b (S : Option Nat × List Int) h' => S.2 = meetTo (Int.ofNat K) o l M b ∧ (S.1 = none ↔ S.2 = []) ∧ (S.2 ≠ [] → S.2.length = M + 1) ∧ Own vars h0 [(S.1, .cells (flatC (vals S.2)) false), (some g6, .cells (vals l) false)] h')
      (fun b S => [(7, u8 (Int.ofNat K)), (8, .int .i64 (Int.ofNat M)), (11, u8 o), (12, .slice (some ⟨g6, 0, none⟩) M 6), (13, growV 1 S.1 (vals S.2)), (14, .int .i64 (Int.ofNat b))])
      rfl (none, []) ⟨rfl, by simp, fun h => absurd rfl h, O.addNil _⟩ ⟨rfl, rfl, by rw [← ho]; rfl, rfl, rfl, rfl, trivial⟩ ?_ ?_
    · rintro b ⟨ac, c⟩ base h1 hb ⟨hc, hn, hcl, O⟩
      simp only at hc hn hcl O
      ((conv => whnf); repeat ((first | refine CodeS.step ?_ | refine RegS.step ?_ | refine RegXS.step ?_); (conv => whnf)))
      refine ⟨_, shiftK (.inl rfl) rfl rfl (shl_small M (by omega)), ?_⟩; ((conv => whnf); repeat ((first | refine CodeS.step ?_ | refine RegS.step ?_ | refine RegXS.step ?_); (conv => whnf)))
      refine ⟨_, rfl, fun _ => ?_, (fun hx => nomatch (hx.symm.trans (lt_nat hb)))⟩; ((conv => whnf); repeat ((first | refine CodeS.step ?_ | refine RegS.step ?_ | refine RegXS.step ?_); (conv => whnf)))
      refine countG hM (by kernel_rfl) (nn := 195) M (fun i (S : Option Nat × Bool) h' => (S.1 = none → i = 0) ∧ S.2 = fitTo l b i ∧ Own vars h0 [(S.1, .cells (flatC (vals (bitsTo b i))) false), (ac, .cells (flatC (vals c)) false), (some g6, .cells (vals l) false)] h')
        (fun i S => [(7, u8 (Int.ofNat K)), (8, .int .i64 (Int.ofNat M)), (11, u8 o), (12, .slice (some ⟨g6, 0, none⟩) M 6), (13, growV 1 ac (vals c)), (14, .int .i64 (Int.ofNat b)), (15, growV 1 S.1 (vals (bitsTo b i))), (16, .bool S.2), (17, .int .i64 (Int.ofNat i))])
        rfl (none, true) ⟨fun _ => rfl, rfl, O.addNil _⟩ ⟨rfl, rfl, rfl, rfl, rfl, rfl, rfl, rfl, rfl, trivial⟩ ?_ ?_
      · rintro i ⟨ax, ok⟩ base h2 hi ⟨hax, hok, O⟩
        simp only at hax hok O
        ((conv => whnf); repeat ((first | refine CodeS.step ?_ | refine RegS.step ?_ | refine RegXS.step ?_); (conv => whnf)))
        refine ⟨_, rfl, fun _ => ?_, (fun hx => nomatch (hx.symm.trans (lt_nat hi)))⟩; ((conv => whnf); repeat ((first | refine CodeS.step ?_ | refine RegS.step ?_ | refine RegXS.step ?_); (conv => whnf)))
        refine ⟨_, shiftK (.inr rfl) rfl rfl (shr_small b i (by omega)), ?_⟩; ((conv => whnf); repeat ((first | refine CodeS.step ?_ | refine RegS.step ?_ | refine RegXS.step ?_); (conv => whnf)))
        refine ⟨_, remK (b := 2) rfl rfl (by decide), ?_⟩; ((conv => whnf); repeat ((first | refine CodeS.step ?_ | refine RegS.step ?_ | refine RegXS.step ?_); (conv => whnf)))
        refine ⟨_, convIntK rfl rfl rfl (bitL_wrap b i), ?_⟩; ((conv => whnf); repeat ((first | refine CodeS.step ?_ | refine RegS.step ?_ | refine RegXS.step ?_); (conv => whnf)))
        refine NewG.frz rfl ?_; ((conv => whnf); repeat ((first | refine CodeS.step ?_ | refine RegS.step ?_ | refine RegXS.step ?_); (conv => whnf)))
        have hv1 : vals (bitsTo b i) ++ [u8 (bitL b i)] = vals (bitsTo b (i + 1)) := by rw [bitsTo_succ]; simp [vals]
        (first | refine O.append (s := 1) (b := 1) (m := 1) (new := [u8 (bitL b i)]) (.head _) (fun e => by rw [hax e]; rfl) rfl rfl rfl rfl rfl rfl rfl rfl rfl rfl rfl (by rw [hv1]; exact vals_one _) rfl (by decide) (by rw [vals_len, bitsTo_length]; omega) (hv1) fun ax' h ha O => ?_ | refine O.append (s := 1) (b := 1) (m := 1) (new := [u8 (bitL b i)]) (.tail _ (.head _)) (fun e => by rw [hax e]; rfl) rfl rfl rfl rfl rfl rfl rfl rfl rfl rfl rfl (by rw [hv1]; exact vals_one _) rfl (by decide) (by rw [vals_len, bitsTo_length]; omega) (hv1) fun ax' h ha O => ?_ | refine O.append (s := 1) (b := 1) (m := 1) (new := [u8 (bitL b i)]) (.tail _ (.tail _ (.head _))) (fun e => by rw [hax e]; rfl) rfl rfl rfl rfl rfl rfl rfl rfl rfl rfl rfl (by rw [hv1]; exact vals_one _) rfl (by decide) (by rw [vals_len, bitsTo_length]; omega) (hv1) fun ax' h ha O => ?_ | refine O.append (s := 1) (b := 1) (m := 1) (new := [u8 (bitL b i)]) (.tail _ (.tail _ (.tail _ (.head _)))) (fun e => by rw [hax e]; rfl) rfl rfl rfl rfl rfl rfl rfl rfl rfl rfl rfl (by rw [hv1]; exact vals_one _) rfl (by decide) (by rw [vals_len, bitsTo_length]; omega) (hv1) fun ax' h ha O => ?_ | refine O.append (s := 1) (b := 1) (m := 1) (new := [u8 (bitL b i)]) (.tail _ (.tail _ (.tail _ (.tail _ (.head _))))) (fun e => by rw [hax e]; rfl) rfl rfl rfl rfl rfl rfl rfl rfl rfl rfl rfl (by rw [hv1]; exact vals_one _) rfl (by decide) (by rw [vals_len, bitsTo_length]; omega) (hv1) fun ax' h ha O => ?_ | refine O.append (s := 1) (b := 1) (m := 1) (new := [u8 (bitL b i)]) (.tail _ (.tail _ (.tail _ (.tail _ (.tail _ (.head _)))))) (fun e => by rw [hax e]; rfl) rfl rfl rfl rfl rfl rfl rfl rfl rfl rfl rfl (by rw [hv1]; exact vals_one _) rfl (by decide) (by rw [vals_len, bitsTo_length]; omega) (hv1) fun ax' h ha O => ?_ | refine O.append (s := 1) (b := 1) (m := 1) (new := [u8 (bitL b i)]) (.tail _ (.tail _ (.tail _ (.tail _ (.tail _ (.tail _ (.head _))))))) (fun e => by rw [hax e]; rfl) rfl rfl rfl rfl rfl rfl rfl rfl rfl rfl rfl (by rw [hv1]; exact vals_one _) rfl (by decide) (by rw [vals_len, bitsTo_length]; omega) (hv1) fun ax' h ha O => ?_); ((conv => whnf); repeat ((first | refine CodeS.step ?_ | refine RegS.step ?_ | refine RegXS.step ?_); (conv => whnf)))
        have hne : vals (bitsTo b (i + 1)) ≠ [] := by rw [← hv1]; simp
        obtain ⟨gx, rfl⟩ : ∃ g, ax' = some g := by
          cases ax' with
          | none => exact absurd (ha rfl) hne
          | some g => exact ⟨g, rfl⟩
        rw [flatC_vals] at O
        have hx1 : (vals (bitsTo b (i + 1)))[0 + i * 1]? = some (u8 (bitL b i)) := by
          rw [vals_at0 (by rw [bitsTo_length]; omega), bitsTo_succ, List.getD, List.getElem?_append_right (by rw [bitsTo_length]; omega), bitsTo_length, Nat.sub_self]
          rfl
        have hxl : i < (vals (bitsTo b (i + 1))).length := by rw [vals_len, bitsTo_length]; omega
        have next : ∀ h', Own vars h0 [(some gx, .cells (vals (bitsTo b (i + 1))) false), (ac, .cells (flatC (vals c)) false), (some g6, .cells (vals l) false)] h' → ∀ ok', ok' = fitTo l b (i + 1) → ((some gx = none → i + 1 = 0) ∧ ok' = fitTo l b (i + 1) ∧ Own vars h0 [(some gx, .cells (flatC (vals (bitsTo b (i + 1)))) false), (ac, .cells (flatC (vals c)) false), (some g6, .cells (vals l) false)] h') :=
          fun h' O ok' e => ⟨(fun e => by cases e), e, by rw [flatC_vals]; exact O⟩
        have hs := fitTo_succ l b i
        rw [← hok] at hs
        refine ⟨_, rfl, fun hc => ?_, fun hc => ?_⟩
        · subst hc
          ((conv => whnf); repeat ((first | refine CodeS.step ?_ | refine RegS.step ?_ | refine RegXS.step ?_); (conv => whnf)))
          refine indexK (s := 1) rfl rfl rfl rfl (hi) ?_; ((conv => whnf); repeat ((first | refine CodeS.step ?_ | refine RegS.step ?_ | refine RegXS.step ?_); (conv => whnf)))
          (first | refine ⟨_, loadK rfl (O.at (.head _)) rfl (hat i (by omega)), ?_⟩ | refine ⟨_, loadK rfl (O.at (.tail _ (.head _))) rfl (hat i (by omega)), ?_⟩ | refine ⟨_, loadK rfl (O.at (.tail _ (.tail _ (.head _)))) rfl (hat i (by omega)), ?_⟩ | refine ⟨_, loadK rfl (O.at (.tail _ (.tail _ (.tail _ (.head _))))) rfl (hat i (by omega)), ?_⟩ | refine ⟨_, loadK rfl (O.at (.tail _ (.tail _ (.tail _ (.tail _ (.head _)))))) rfl (hat i (by omega)), ?_⟩ | refine ⟨_, loadK rfl (O.at (.tail _ (.tail _ (.tail _ (.tail _ (.tail _ (.head _))))))) rfl (hat i (by omega)), ?_⟩ | refine ⟨_, loadK rfl (O.at (.tail _ (.tail _ (.tail _ (.tail _ (.tail _ (.tail _ (.head _)))))))) rfl (hat i (by omega)), ?_⟩); ((conv => whnf); repeat ((first | refine CodeS.step ?_ | refine RegS.step ?_ | refine RegXS.step ?_); (conv => whnf)))
          (first | refine ⟨.inl rfl, ?_⟩ | refine ⟨.inr (.inr rfl), ?_⟩ | refine ⟨.inr (.inr (loadK rfl (O.at (.head _)) rfl rfl)), ?_⟩ | refine ⟨.inr (.inr (loadK rfl (O.at (.tail _ (.head _))) rfl rfl)), ?_⟩ | refine ⟨.inr (.inr (loadK rfl (O.at (.tail _ (.tail _ (.head _)))) rfl rfl)), ?_⟩ | refine ⟨.inr (.inr (loadK rfl (O.at (.tail _ (.tail _ (.tail _ (.head _))))) rfl rfl)), ?_⟩ | refine ⟨.inr (.inr (loadK rfl (O.at (.tail _ (.tail _ (.tail _ (.tail _ (.head _)))))) rfl rfl)), ?_⟩ | refine ⟨.inr (.inr (loadK rfl (O.at (.tail _ (.tail _ (.tail _ (.tail _ (.tail _ (.head _))))))) rfl rfl)), ?_⟩ | refine ⟨.inr (.inr (loadK rfl (O.at (.tail _ (.tail _ (.tail _ (.tail _ (.tail _ (.tail _ (.head _)))))))) rfl rfl)), ?_⟩ | refine ⟨.inl (Ext.refl _), ?_⟩ | refine ⟨.inr (by kernel_rfl), ?_⟩ | refine ⟨.inl (by kernel_rfl), ?_⟩); ((conv => whnf); repeat ((first | refine CodeS.step ?_ | refine RegS.step ?_ | refine RegXS.step ?_); (conv => whnf)))
          refine ⟨_, rfl, fun hc => ?_, fun hc => ?_⟩
          · ((conv => whnf); repeat ((first | refine CodeS.step ?_ | refine RegS.step ?_ | refine RegXS.step ?_); (conv => whnf)))
            rw [hc]
            ((conv => whnf); repeat ((first | refine CodeS.step ?_ | refine RegS.step ?_ | refine RegXS.step ?_); (conv => whnf)))
            refine ⟨_, addK (b := 1) rfl rfl (by omega), ?_⟩; ((conv => whnf); repeat ((first | refine CodeS.step ?_ | refine RegS.step ?_ | refine RegXS.step ?_); (conv => whnf)))
            exact ⟨(some gx, true), next _ O true (by rw [hs, show decide (1 < l.getD i 0) = true by rw [← ltI_eq]; exact hc]; rfl), rfl, rfl, rfl, rfl, rfl, rfl, rfl, rfl, rfl, trivial⟩
          · ((conv => whnf); repeat ((first | refine CodeS.step ?_ | refine RegS.step ?_ | refine RegXS.step ?_); (conv => whnf)))
            rw [hc]
            ((conv => whnf); repeat ((first | refine CodeS.step ?_ | refine RegS.step ?_ | refine RegXS.step ?_); (conv => whnf)))
            refine indexK (s := 1) rfl rfl rfl rfl (hi) ?_; ((conv => whnf); repeat ((first | refine CodeS.step ?_ | refine RegS.step ?_ | refine RegXS.step ?_); (conv => whnf)))
            (first | refine ⟨_, loadK rfl (O.at (.head _)) rfl (hat i (by omega)), ?_⟩ | refine ⟨_, loadK rfl (O.at (.tail _ (.head _))) rfl (hat i (by omega)), ?_⟩ | refine ⟨_, loadK rfl (O.at (.tail _ (.tail _ (.head _)))) rfl (hat i (by omega)), ?_⟩ | refine ⟨_, loadK rfl (O.at (.tail _ (.tail _ (.tail _ (.head _))))) rfl (hat i (by omega)), ?_⟩ | refine ⟨_, loadK rfl (O.at (.tail _ (.tail _ (.tail _ (.tail _ (.head _)))))) rfl (hat i (by omega)), ?_⟩ | refine ⟨_, loadK rfl (O.at (.tail _ (.tail _ (.tail _ (.tail _ (.tail _ (.head _))))))) rfl (hat i (by omega)), ?_⟩ | refine ⟨_, loadK rfl (O.at (.tail _ (.tail _ (.tail _ (.tail _ (.tail _ (.tail _ (.head _)))))))) rfl (hat i (by omega)), ?_⟩); ((conv => whnf); repeat ((first | refine CodeS.step ?_ | refine RegS.step ?_ | refine RegXS.step ?_); (conv => whnf)))
            (first | refine ⟨.inl rfl, ?_⟩ | refine ⟨.inr (.inr rfl), ?_⟩ | refine ⟨.inr (.inr (loadK rfl (O.at (.head _)) rfl rfl)), ?_⟩ | refine ⟨.inr (.inr (loadK rfl (O.at (.tail _ (.head _))) rfl rfl)), ?_⟩ | refine ⟨.inr (.inr (loadK rfl (O.at (.tail _ (.tail _ (.head _)))) rfl rfl)), ?_⟩ | refine ⟨.inr (.inr (loadK rfl (O.at (.tail _ (.tail _ (.tail _ (.head _))))) rfl rfl)), ?_⟩ | refine ⟨.inr (.inr (loadK rfl (O.at (.tail _ (.tail _ (.tail _ (.tail _ (.head _)))))) rfl rfl)), ?_⟩ | refine ⟨.inr (.inr (loadK rfl (O.at (.tail _ (.tail _ (.tail _ (.tail _ (.tail _ (.head _))))))) rfl rfl)), ?_⟩ | refine ⟨.inr (.inr (loadK rfl (O.at (.tail _ (.tail _ (.tail _ (.tail _ (.tail _ (.tail _ (.head _)))))))) rfl rfl)), ?_⟩ | refine ⟨.inl (Ext.refl _), ?_⟩ | refine ⟨.inr (by kernel_rfl), ?_⟩ | refine ⟨.inl (by kernel_rfl), ?_⟩); ((conv => whnf); repeat ((first | refine CodeS.step ?_ | refine RegS.step ?_ | refine RegXS.step ?_); (conv => whnf)))
            refine indexK (s := 1) rfl rfl rfl rfl (hxl) ?_; ((conv => whnf); repeat ((first | refine CodeS.step ?_ | refine RegS.step ?_ | refine RegXS.step ?_); (conv => whnf)))
            (first | refine ⟨_, loadK rfl (O.at (.head _)) rfl (hx1), ?_⟩ | refine ⟨_, loadK rfl (O.at (.tail _ (.head _))) rfl (hx1), ?_⟩ | refine ⟨_, loadK rfl (O.at (.tail _ (.tail _ (.head _)))) rfl (hx1), ?_⟩ | refine ⟨_, loadK rfl (O.at (.tail _ (.tail _ (.tail _ (.head _))))) rfl (hx1), ?_⟩ | refine ⟨_, loadK rfl (O.at (.tail _ (.tail _ (.tail _ (.tail _ (.head _)))))) rfl (hx1), ?_⟩ | refine ⟨_, loadK rfl (O.at (.tail _ (.tail _ (.tail _ (.tail _ (.tail _ (.head _))))))) rfl (hx1), ?_⟩ | refine ⟨_, loadK rfl (O.at (.tail _ (.tail _ (.tail _ (.tail _ (.tail _ (.tail _ (.head _)))))))) rfl (hx1), ?_⟩); ((conv => whnf); repeat ((first | refine CodeS.step ?_ | refine RegS.step ?_ | refine RegXS.step ?_); (conv => whnf)))
            (first | refine ⟨.inl rfl, ?_⟩ | refine ⟨.inr (.inr rfl), ?_⟩ | refine ⟨.inr (.inr (loadK rfl (O.at (.head _)) rfl rfl)), ?_⟩ | refine ⟨.inr (.inr (loadK rfl (O.at (.tail _ (.head _))) rfl rfl)), ?_⟩ | refine ⟨.inr (.inr (loadK rfl (O.at (.tail _ (.tail _ (.head _)))) rfl rfl)), ?_⟩ | refine ⟨.inr (.inr (loadK rfl (O.at (.tail _ (.tail _ (.tail _ (.head _))))) rfl rfl)), ?_⟩ | refine ⟨.inr (.inr (loadK rfl (O.at (.tail _ (.tail _ (.tail _ (.tail _ (.head _)))))) rfl rfl)), ?_⟩ | refine ⟨.inr (.inr (loadK rfl (O.at (.tail _ (.tail _ (.tail _ (.tail _ (.tail _ (.head _))))))) rfl rfl)), ?_⟩ | refine ⟨.inr (.inr (loadK rfl (O.at (.tail _ (.tail _ (.tail _ (.tail _ (.tail _ (.tail _ (.head _)))))))) rfl rfl)), ?_⟩ | refine ⟨.inl (Ext.refl _), ?_⟩ | refine ⟨.inr (by kernel_rfl), ?_⟩ | refine ⟨.inl (by kernel_rfl), ?_⟩); ((conv => whnf); repeat ((first | refine CodeS.step ?_ | refine RegS.step ?_ | refine RegXS.step ?_); (conv => whnf)))
            refine ⟨_, addK (b := 1) rfl rfl (by omega), ?_⟩; ((conv => whnf); repeat ((first | refine CodeS.step ?_ | refine RegS.step ?_ | refine RegXS.step ?_); (conv => whnf)))
            exact ⟨(some gx, l.getD i 0 == bitL b i), next _ O _ (by rw [hs, show decide (1 < l.getD i 0) = false by rw [← ltI_eq]; exact hc]; simp), rfl, rfl, rfl, rfl, rfl, rfl, rfl, rfl, rfl, trivial⟩
        · subst hc
          ((conv => whnf); repeat ((first | refine CodeS.step ?_ | refine RegS.step ?_ | refine RegXS.step ?_); (conv => whnf)))
          refine ⟨_, addK (b := 1) rfl rfl (by omega), ?_⟩; ((conv => whnf); repeat ((first | refine CodeS.step ?_ | refine RegS.step ?_ | refine RegXS.step ?_); (conv => whnf)))
          exact ⟨(some gx, false), next _ O false (by rw [hs]; rfl), rfl, rfl, rfl, rfl, rfl, rfl, rfl, rfl, rfl, trivial⟩
      · rintro ⟨ax, ok⟩ base h2 ⟨hax, hok, O⟩
        simp only at hax hok O
        ((conv => whnf); repeat ((first | refine CodeS.step ?_ | refine RegS.step ?_ | refine RegXS.step ?_); (conv => whnf)))
        refine ⟨_, rfl, (fun hx => nomatch (hx.symm.trans (lt_end M))), fun _ => ?_⟩; ((conv => whnf); repeat ((first | refine CodeS.step ?_ | refine RegS.step ?_ | refine RegXS.step ?_); (conv => whnf)))
        have cE := eval_ok hKn hK256 (hasVars O.has) (O.sl (.head _) (fun e => by rw [hax e]; rfl) (vals_one _)) (bitsTo_nonneg b M) (by rw [bitsTo_length]; omega)
        refine ⟨_, _, cE, ?_⟩; ((conv => whnf); repeat ((first | refine CodeS.step ?_ | refine RegS.step ?_ | refine RegXS.step ?_); (conv => whnf)))
        generalize hy : evalL (Int.ofNat K) (bitsTo b M) = y
        have hstep : meetTo (Int.ofNat K) o l M (b + 1) = stepL (Int.ofNat K) o l M b c := by rw [hc]; rfl
        unfold stepL at hstep
        rw [hy, ← hok] at hstep
        have skip : ok = false ∨ (o < 2 ∧ o ≠ y) → meetTo (Int.ofNat K) o l M (b + 1) = c := fun h => by
          rw [hstep, if_neg]
          rintro ⟨h1, h2⟩
          rcases h with h | h
          · rw [h1] at h; cases h
          · exact h2 h
        have next : meetTo (Int.ofNat K) o l M (b + 1) = c → ∀ h', Own vars h0 [(ac, .cells (flatC (vals c)) false), (some g6, .cells (vals l) false)] h' →
            (c = meetTo (Int.ofNat K) o l M (b + 1) ∧ (ac = none ↔ c = []) ∧ (c ≠ [] → c.length = M + 1) ∧ Own vars h0 [(ac, .cells (flatC (vals c)) false), (some g6, .cells (vals l) false)] h') := fun e h' O => ⟨e.symm, hn, hcl, O⟩
        have hlt2 : decide (o < 2) = ltI o 2 := (ltI_eq o 2).symm
        cases ok with
        | false =>
          refine ⟨true, rfl, fun _ => ?_, (fun hc => nomatch hc)⟩; ((conv => whnf); repeat ((first | refine CodeS.step ?_ | refine RegS.step ?_ | refine RegXS.step ?_); (conv => whnf)))
          refine ⟨true, rfl, fun _ => ?_, (fun hc => nomatch hc)⟩; ((conv => whnf); repeat ((first | refine CodeS.step ?_ | refine RegS.step ?_ | refine RegXS.step ?_); (conv => whnf)))
          refine ⟨_, addK (b := 1) rfl rfl (by omega), ?_⟩; ((conv => whnf); repeat ((first | refine CodeS.step ?_ | refine RegS.step ?_ | refine RegXS.step ?_); (conv => whnf)))
          exact ⟨(ac, c), next (skip (.inl rfl)) _ O.tail, rfl, rfl, rfl, rfl, rfl, rfl, trivial⟩
        | true =>
          refine ⟨false, rfl, (fun hc => nomatch hc), fun _ => ?_⟩; ((conv => whnf); repeat ((first | refine CodeS.step ?_ | refine RegS.step ?_ | refine RegXS.step ?_); (conv => whnf)))
          obtain ⟨x, hx⟩ : ∃ x, x = bitsTo b M ++ [y] := ⟨_, rfl⟩
          have hv2 : vals (bitsTo b M) ++ [u8 y] = vals x := by rw [hx]; simp [vals]
          have hxn : x.length = M + 1 := by rw [hx, List.length_append, bitsTo_length]; rfl
          refine ⟨_, rfl, fun hc2 => ?_, fun hc2 => ?_⟩
          · ((conv => whnf); repeat ((first | refine CodeS.step ?_ | refine RegS.step ?_ | refine RegXS.step ?_); (conv => whnf)))
            refine ⟨_, rfl, fun hc3 => ?_, fun hc3 => ?_⟩
            · ((conv => whnf); repeat ((first | refine CodeS.step ?_ | refine RegS.step ?_ | refine RegXS.step ?_); (conv => whnf)))
              refine ⟨_, addK (b := 1) rfl rfl (by omega), ?_⟩; ((conv => whnf); repeat ((first | refine CodeS.step ?_ | refine RegS.step ?_ | refine RegXS.step ?_); (conv => whnf)))
              exact ⟨(ac, c), next (skip (.inr ⟨of_decide_eq_true (hlt2.trans hc2), by simpa using hc3⟩)) _ O.tail, rfl, rfl, rfl, rfl, rfl, rfl, trivial⟩
            · have hgo : ¬ (o < 2 ∧ o ≠ y) := fun h => by simp at hc3; exact h.2 hc3
              ((conv => whnf); repeat ((first | refine CodeS.step ?_ | refine RegS.step ?_ | refine RegXS.step ?_); (conv => whnf)))
              refine NewG.frz rfl ?_; ((conv => whnf); repeat ((first | refine CodeS.step ?_ | refine RegS.step ?_ | refine RegXS.step ?_); (conv => whnf)))
              (first | refine O.append (s := 1) (b := 1) (m := 1) (new := [u8 y]) (.head _) (fun e => by rw [hax e]; rfl) rfl rfl rfl rfl rfl rfl rfl rfl rfl rfl rfl (by rw [hv2]; exact vals_one _) rfl (by decide) (by rw [vals_len, bitsTo_length]; omega) (hv2) fun ax' h ha O => ?_ | refine O.append (s := 1) (b := 1) (m := 1) (new := [u8 y]) (.tail _ (.head _)) (fun e => by rw [hax e]; rfl) rfl rfl rfl rfl rfl rfl rfl rfl rfl rfl rfl (by rw [hv2]; exact vals_one _) rfl (by decide) (by rw [vals_len, bitsTo_length]; omega) (hv2) fun ax' h ha O => ?_ | refine O.append (s := 1) (b := 1) (m := 1) (new := [u8 y]) (.tail _ (.tail _ (.head _))) (fun e => by rw [hax e]; rfl) rfl rfl rfl rfl rfl rfl rfl rfl rfl rfl rfl (by rw [hv2]; exact vals_one _) rfl (by decide) (by rw [vals_len, bitsTo_length]; omega) (hv2) fun ax' h ha O => ?_ | refine O.append (s := 1) (b := 1) (m := 1) (new := [u8 y]) (.tail _ (.tail _ (.tail _ (.head _)))) (fun e => by rw [hax e]; rfl) rfl rfl rfl rfl rfl rfl rfl rfl rfl rfl rfl (by rw [hv2]; exact vals_one _) rfl (by decide) (by rw [vals_len, bitsTo_length]; omega) (hv2) fun ax' h ha O => ?_ | refine O.append (s := 1) (b := 1) (m := 1) (new := [u8 y]) (.tail _ (.tail _ (.tail _ (.tail _ (.head _))))) (fun e => by rw [hax e]; rfl) rfl rfl rfl rfl rfl rfl rfl rfl rfl rfl rfl (by rw [hv2]; exact vals_one _) rfl (by decide) (by rw [vals_len, bitsTo_length]; omega) (hv2) fun ax' h ha O => ?_ | refine O.append (s := 1) (b := 1) (m := 1) (new := [u8 y]) (.tail _ (.tail _ (.tail _ (.tail _ (.tail _ (.head _)))))) (fun e => by rw [hax e]; rfl) rfl rfl rfl rfl rfl rfl rfl rfl rfl rfl rfl (by rw [hv2]; exact vals_one _) rfl (by decide) (by rw [vals_len, bitsTo_length]; omega) (hv2) fun ax' h ha O => ?_ | refine O.append (s := 1) (b := 1) (m := 1) (new := [u8 y]) (.tail _ (.tail _ (.tail _ (.tail _ (.tail _ (.tail _ (.head _))))))) (fun e => by rw [hax e]; rfl) rfl rfl rfl rfl rfl rfl rfl rfl rfl rfl rfl (by rw [hv2]; exact vals_one _) rfl (by decide) (by rw [vals_len, bitsTo_length]; omega) (hv2) fun ax' h ha O => ?_); ((conv => whnf); repeat ((first | refine CodeS.step ?_ | refine RegS.step ?_ | refine RegXS.step ?_); (conv => whnf)))
              obtain ⟨gx, rfl⟩ : ∃ g, ax' = some g := by
                cases ax' with
                | none => have := congrArg List.length (ha rfl); rw [vals_len, hxn] at this; simp at this
                | some g => exact ⟨g, rfl⟩
              simp only [flatC_vals] at O
              have hstep2 : meetTo (Int.ofNat K) o l M (b + 1) = joinL c x := by rw [hstep, if_pos ⟨rfl, hgo⟩, hx]
              have hxa : ∀ i, i < M + 1 → i < (vals x).length := fun i hi => by rw [vals_len, hxn]; exact hi
              have hxg : ∀ i, i < M + 1 → (vals x)[0 + i * 1]? = some (u8 (x.getD i 0)) := fun i hi => vals_at0 (by omega)
              cases ac with
              | none =>
                obtain rfl : c = [] := hn.1 rfl
                ((conv => whnf); repeat ((first | refine CodeS.step ?_ | refine RegS.step ?_ | refine RegXS.step ?_); (conv => whnf)))
                refine ⟨true, rfl, fun _ => ?_, (fun hc => nomatch hc)⟩; ((conv => whnf); repeat ((first | refine CodeS.step ?_ | refine RegS.step ?_ | refine RegXS.step ?_); (conv => whnf)))
                refine countG hM (by kernel_rfl) (nn := 195) (M + 1) (fun i (_ : Unit) h' => Own vars h0 [(some gx, .cells (vals x) false), (some g6, .cells (vals l) false)] h')
                  (fun i _ => [(7, u8 (Int.ofNat K)), (8, .int .i64 (Int.ofNat M)), (11, u8 o), (12, .slice (some ⟨g6, 0, none⟩) M 6), (13, growV 1 (some gx) (vals x)), (14, .int .i64 (Int.ofNat b)), (15, growV 1 (some gx) (vals x)), (19, .int .i64 (Int.ofNat i))])
                  rfl () O.second ⟨rfl, rfl, rfl, rfl, rfl, rfl, rfl, rfl, trivial⟩ ?_ ?_
                · rintro i _ base h3 hi O
                  ((conv => whnf); repeat ((first | refine CodeS.step ?_ | refine RegS.step ?_ | refine RegXS.step ?_); (conv => whnf)))
                  refine ⟨_, rfl, fun _ => ?_, (fun hx => nomatch (hx.symm.trans ((show (!ltI (Int.ofNat M) (Int.ofNat i)) = true by rw [ge_nat (by omega)]; rfl))))⟩; ((conv => whnf); repeat ((first | refine CodeS.step ?_ | refine RegS.step ?_ | refine RegXS.step ?_); (conv => whnf)))
                  refine indexK (s := 1) rfl rfl rfl rfl (hxa i hi) ?_; ((conv => whnf); repeat ((first | refine CodeS.step ?_ | refine RegS.step ?_ | refine RegXS.step ?_); (conv => whnf)))
                  (first | refine ⟨_, loadK rfl (O.at (.head _)) rfl (hxg i hi), ?_⟩ | refine ⟨_, loadK rfl (O.at (.tail _ (.head _))) rfl (hxg i hi), ?_⟩ | refine ⟨_, loadK rfl (O.at (.tail _ (.tail _ (.head _)))) rfl (hxg i hi), ?_⟩ | refine ⟨_, loadK rfl (O.at (.tail _ (.tail _ (.tail _ (.head _))))) rfl (hxg i hi), ?_⟩ | refine ⟨_, loadK rfl (O.at (.tail _ (.tail _ (.tail _ (.tail _ (.head _)))))) rfl (hxg i hi), ?_⟩ | refine ⟨_, loadK rfl (O.at (.tail _ (.tail _ (.tail _ (.tail _ (.tail _ (.head _))))))) rfl (hxg i hi), ?_⟩ | refine ⟨_, loadK rfl (O.at (.tail _ (.tail _ (.tail _ (.tail _ (.tail _ (.tail _ (.head _)))))))) rfl (hxg i hi), ?_⟩); ((conv => whnf); repeat ((first | refine CodeS.step ?_ | refine RegS.step ?_ | refine RegXS.step ?_); (conv => whnf)))
                  (first | refine ⟨.inl rfl, ?_⟩ | refine ⟨.inr (.inr rfl), ?_⟩ | refine ⟨.inr (.inr (loadK rfl (O.at (.head _)) rfl rfl)), ?_⟩ | refine ⟨.inr (.inr (loadK rfl (O.at (.tail _ (.head _))) rfl rfl)), ?_⟩ | refine ⟨.inr (.inr (loadK rfl (O.at (.tail _ (.tail _ (.head _)))) rfl rfl)), ?_⟩ | refine ⟨.inr (.inr (loadK rfl (O.at (.tail _ (.tail _ (.tail _ (.head _))))) rfl rfl)), ?_⟩ | refine ⟨.inr (.inr (loadK rfl (O.at (.tail _ (.tail _ (.tail _ (.tail _ (.head _)))))) rfl rfl)), ?_⟩ | refine ⟨.inr (.inr (loadK rfl (O.at (.tail _ (.tail _ (.tail _ (.tail _ (.tail _ (.head _))))))) rfl rfl)), ?_⟩ | refine ⟨.inr (.inr (loadK rfl (O.at (.tail _ (.tail _ (.tail _ (.tail _ (.tail _ (.tail _ (.head _)))))))) rfl rfl)), ?_⟩ | refine ⟨.inl (Ext.refl _), ?_⟩ | refine ⟨.inr (by kernel_rfl), ?_⟩ | refine ⟨.inl (by kernel_rfl), ?_⟩); ((conv => whnf); repeat ((first | refine CodeS.step ?_ | refine RegS.step ?_ | refine RegXS.step ?_); (conv => whnf)))
                  refine indexK (s := 1) rfl rfl rfl rfl (hxa i hi) ?_; ((conv => whnf); repeat ((first | refine CodeS.step ?_ | refine RegS.step ?_ | refine RegXS.step ?_); (conv => whnf)))
                  (first | refine ⟨_, loadK rfl (O.at (.head _)) rfl (hxg i hi), ?_⟩ | refine ⟨_, loadK rfl (O.at (.tail _ (.head _))) rfl (hxg i hi), ?_⟩ | refine ⟨_, loadK rfl (O.at (.tail _ (.tail _ (.head _)))) rfl (hxg i hi), ?_⟩ | refine ⟨_, loadK rfl (O.at (.tail _ (.tail _ (.tail _ (.head _))))) rfl (hxg i hi), ?_⟩ | refine ⟨_, loadK rfl (O.at (.tail _ (.tail _ (.tail _ (.tail _ (.head _)))))) rfl (hxg i hi), ?_⟩ | refine ⟨_, loadK rfl (O.at (.tail _ (.tail _ (.tail _ (.tail _ (.tail _ (.head _))))))) rfl (hxg i hi), ?_⟩ | refine ⟨_, loadK rfl (O.at (.tail _ (.tail _ (.tail _ (.tail _ (.tail _ (.tail _ (.head _)))))))) rfl (hxg i hi), ?_⟩); ((conv => whnf); repeat ((first | refine CodeS.step ?_ | refine RegS.step ?_ | refine RegXS.step ?_); (conv => whnf)))
                  (first | refine ⟨.inl rfl, ?_⟩ | refine ⟨.inr (.inr rfl), ?_⟩ | refine ⟨.inr (.inr (loadK rfl (O.at (.head _)) rfl rfl)), ?_⟩ | refine ⟨.inr (.inr (loadK rfl (O.at (.tail _ (.head _))) rfl rfl)), ?_⟩ | refine ⟨.inr (.inr (loadK rfl (O.at (.tail _ (.tail _ (.head _)))) rfl rfl)), ?_⟩ | refine ⟨.inr (.inr (loadK rfl (O.at (.tail _ (.tail _ (.tail _ (.head _))))) rfl rfl)), ?_⟩ | refine ⟨.inr (.inr (loadK rfl (O.at (.tail _ (.tail _ (.tail _ (.tail _ (.head _)))))) rfl rfl)), ?_⟩ | refine ⟨.inr (.inr (loadK rfl (O.at (.tail _ (.tail _ (.tail _ (.tail _ (.tail _ (.head _))))))) rfl rfl)), ?_⟩ | refine ⟨.inr (.inr (loadK rfl (O.at (.tail _ (.tail _ (.tail _ (.tail _ (.tail _ (.tail _ (.head _)))))))) rfl rfl)), ?_⟩ | refine ⟨.inl (Ext.refl _), ?_⟩ | refine ⟨.inr (by kernel_rfl), ?_⟩ | refine ⟨.inl (by kernel_rfl), ?_⟩); ((conv => whnf); repeat ((first | refine CodeS.step ?_ | refine RegS.step ?_ | refine RegXS.step ?_); (conv => whnf)))
                  refine ⟨_, rfl, (fun hx => nomatch (hx.symm.trans ((show (x.getD i 0 != x.getD i 0) = false by simp)))), fun _ => ?_⟩; ((conv => whnf); repeat ((first | refine CodeS.step ?_ | refine RegS.step ?_ | refine RegXS.step ?_); (conv => whnf)))
                  refine ⟨_, addK (b := 1) rfl rfl (by omega), ?_⟩; ((conv => whnf); repeat ((first | refine CodeS.step ?_ | refine RegS.step ?_ | refine RegXS.step ?_); (conv => whnf)))
                  exact ⟨(), O, rfl, rfl, rfl, rfl, rfl, rfl, rfl, rfl, trivial⟩
                · rintro _ base h3 O
                  ((conv => whnf); repeat ((first | refine CodeS.step ?_ | refine RegS.step ?_ | refine RegXS.step ?_); (conv => whnf)))
                  refine ⟨_, rfl, (fun hx => nomatch (hx.symm.trans ((show (!ltI (Int.ofNat M) (Int.ofNat (M + 1))) = false by rw [lt_nat (by omega)]; rfl)))), fun _ => ?_⟩; ((conv => whnf); repeat ((first | refine CodeS.step ?_ | refine RegS.step ?_ | refine RegXS.step ?_); (conv => whnf)))
                  refine ⟨_, addK (b := 1) rfl rfl (by omega), ?_⟩; ((conv => whnf); repeat ((first | refine CodeS.step ?_ | refine RegS.step ?_ | refine RegXS.step ?_); (conv => whnf)))
                  exact ⟨(some gx, x), ⟨hstep2.symm, ⟨(fun e => by cases e), fun e => by have e : x = [] := e; rw [e] at hxn; simp at hxn⟩, fun _ => hxn, by simp only [flatC_vals]; exact O⟩, rfl, rfl, rfl, rfl, rfl, rfl, trivial⟩
              | some gc =>
                have hcne : c ≠ [] := fun e => by have := hn.2 e; cases this
                have hcl' := hcl hcne
                have hstep3 : meetTo (Int.ofNat K) o l M (b + 1) = List.zipWith meet2 c x := by
                  rw [hstep2]
                  cases c with
                  | nil => exact absurd rfl hcne
                  | cons _ _ => rfl
                have hzl : (List.zipWith meet2 c x).length = M + 1 := by rw [List.length_zipWith, hcl', hxn, Nat.min_self]
                ((conv => whnf); repeat ((first | refine CodeS.step ?_ | refine RegS.step ?_ | refine RegXS.step ?_); (conv => whnf)))
                refine ⟨false, rfl, (fun hc => nomatch hc), fun _ => ?_⟩; ((conv => whnf); repeat ((first | refine CodeS.step ?_ | refine RegS.step ?_ | refine RegXS.step ?_); (conv => whnf)))
                refine countG hM (by kernel_rfl) (nn := 195) (M + 1) (fun i (c' : List Int) h' => (c'.length = M + 1 ∧ ∀ j, c'[j]? = if j < i then (List.zipWith meet2 c x)[j]? else c[j]?) ∧ Own vars h0 [(some gx, .cells (vals x) false), (some gc, .cells (vals c') false), (some g6, .cells (vals l) false)] h')
                  (fun i _ => [(7, u8 (Int.ofNat K)), (8, .int .i64 (Int.ofNat M)), (11, u8 o), (12, .slice (some ⟨g6, 0, none⟩) M 6), (13, growV 1 (some gc) (vals c)), (14, .int .i64 (Int.ofNat b)), (15, growV 1 (some gx) (vals x)), (19, .int .i64 (Int.ofNat i))])
                  rfl c ⟨⟨hcl', fun j => by rw [if_neg (Nat.not_lt_zero j)]⟩, O⟩ ⟨rfl, rfl, rfl, rfl, rfl, rfl, rfl, rfl, trivial⟩ ?_ ?_
                · rintro i c' base h3 hi ⟨⟨hl', hp'⟩, O⟩
                  have hci : c'[i]? = some (c.getD i 0) := by rw [hp' i, if_neg (Nat.lt_irrefl i), List.getD, List.getElem?_eq_getElem (by omega)]; rfl
                  have hcg : (vals c')[0 + i * 1]? = some (u8 (c.getD i 0)) := by rw [vals_at0 (by omega), List.getD, hci]; rfl
                  have hzi : (List.zipWith meet2 c x)[i]? = some (meet2 (c.getD i 0) (x.getD i 0)) := by
                    rw [List.getElem?_zipWith, List.getElem?_eq_getElem (by omega : i < c.length), List.getElem?_eq_getElem (by omega : i < x.length), List.getD, List.getD, List.getElem?_eq_getElem (by omega : i < c.length), List.getElem?_eq_getElem (by omega : i < x.length)]
                    rfl
                  have nextp : ∀ c'' : List Int, c''.length = M + 1 → (∀ j, j ≠ i → c''[j]? = c'[j]?) → c''[i]? = some (meet2 (c.getD i 0) (x.getD i 0)) → (c''.length = M + 1 ∧ ∀ j, c''[j]? = if j < i + 1 then (List.zipWith meet2 c x)[j]? else c[j]?) := by
                    intro c'' h1 h2 h3
                    refine ⟨h1, fun j => ?_⟩
                    by_cases q : j = i
                    · subst q; rw [if_pos (Nat.lt_succ_self j), h3, hzi]
                    · rw [h2 j q, hp' j]
                      by_cases q2 : j < i
                      · rw [if_pos q2, if_pos (by omega)]
                      · rw [if_neg q2, if_neg (by omega)]
                  ((conv => whnf); repeat ((first | refine CodeS.step ?_ | refine RegS.step ?_ | refine RegXS.step ?_); (conv => whnf)))
                  refine ⟨_, rfl, fun _ => ?_, (fun hx => nomatch (hx.symm.trans ((show (!ltI (Int.ofNat M) (Int.ofNat i)) = true by rw [ge_nat (by omega)]; rfl))))⟩; ((conv => whnf); repeat ((first | refine CodeS.step ?_ | refine RegS.step ?_ | refine RegXS.step ?_); (conv => whnf)))
                  refine indexK (s := 1) rfl rfl rfl rfl (by rw [vals_len, hcl']; exact hi) ?_; ((conv => whnf); repeat ((first | refine CodeS.step ?_ | refine RegS.step ?_ | refine RegXS.step ?_); (conv => whnf)))
                  (first | refine ⟨_, loadK rfl (O.at (.head _)) rfl (hcg), ?_⟩ | refine ⟨_, loadK rfl (O.at (.tail _ (.head _))) rfl (hcg), ?_⟩ | refine ⟨_, loadK rfl (O.at (.tail _ (.tail _ (.head _)))) rfl (hcg), ?_⟩ | refine ⟨_, loadK rfl (O.at (.tail _ (.tail _ (.tail _ (.head _))))) rfl (hcg), ?_⟩ | refine ⟨_, loadK rfl (O.at (.tail _ (.tail _ (.tail _ (.tail _ (.head _)))))) rfl (hcg), ?_⟩ | refine ⟨_, loadK rfl (O.at (.tail _ (.tail _ (.tail _ (.tail _ (.tail _ (.head _))))))) rfl (hcg), ?_⟩ | refine ⟨_, loadK rfl (O.at (.tail _ (.tail _ (.tail _ (.tail _ (.tail _ (.tail _ (.head _)))))))) rfl (hcg), ?_⟩); ((conv => whnf); repeat ((first | refine CodeS.step ?_ | refine RegS.step ?_ | refine RegXS.step ?_); (conv => whnf)))
                  (first | refine ⟨.inl rfl, ?_⟩ | refine ⟨.inr (.inr rfl), ?_⟩ | refine ⟨.inr (.inr (loadK rfl (O.at (.head _)) rfl rfl)), ?_⟩ | refine ⟨.inr (.inr (loadK rfl (O.at (.tail _ (.head _))) rfl rfl)), ?_⟩ | refine ⟨.inr (.inr (loadK rfl (O.at (.tail _ (.tail _ (.head _)))) rfl rfl)), ?_⟩ | refine ⟨.inr (.inr (loadK rfl (O.at (.tail _ (.tail _ (.tail _ (.head _))))) rfl rfl)), ?_⟩ | refine ⟨.inr (.inr (loadK rfl (O.at (.tail _ (.tail _ (.tail _ (.tail _ (.head _)))))) rfl rfl)), ?_⟩ | refine ⟨.inr (.inr (loadK rfl (O.at (.tail _ (.tail _ (.tail _ (.tail _ (.tail _ (.head _))))))) rfl rfl)), ?_⟩ | refine ⟨.inr (.inr (loadK rfl (O.at (.tail _ (.tail _ (.tail _ (.tail _ (.tail _ (.tail _ (.head _)))))))) rfl rfl)), ?_⟩ | refine ⟨.inl (Ext.refl _), ?_⟩ | refine ⟨.inr (by kernel_rfl), ?_⟩ | refine ⟨.inl (by kernel_rfl), ?_⟩); ((conv => whnf); repeat ((first | refine CodeS.step ?_ | refine RegS.step ?_ | refine RegXS.step ?_); (conv => whnf)))
                  refine indexK (s := 1) rfl rfl rfl rfl (hxa i hi) ?_; ((conv => whnf); repeat ((first | refine CodeS.step ?_ | refine RegS.step ?_ | refine RegXS.step ?_); (conv => whnf)))
                  (first | refine ⟨_, loadK rfl (O.at (.head _)) rfl (hxg i hi), ?_⟩ | refine ⟨_, loadK rfl (O.at (.tail _ (.head _))) rfl (hxg i hi), ?_⟩ | refine ⟨_, loadK rfl (O.at (.tail _ (.tail _ (.head _)))) rfl (hxg i hi), ?_⟩ | refine ⟨_, loadK rfl (O.at (.tail _ (.tail _ (.tail _ (.head _))))) rfl (hxg i hi), ?_⟩ | refine ⟨_, loadK rfl (O.at (.tail _ (.tail _ (.tail _ (.tail _ (.head _)))))) rfl (hxg i hi), ?_⟩ | refine ⟨_, loadK rfl (O.at (.tail _ (.tail _ (.tail _ (.tail _ (.tail _ (.head _))))))) rfl (hxg i hi), ?_⟩ | refine ⟨_, loadK rfl (O.at (.tail _ (.tail _ (.tail _ (.tail _ (.tail _ (.tail _ (.head _)))))))) rfl (hxg i hi), ?_⟩); ((conv => whnf); repeat ((first | refine CodeS.step ?_ | refine RegS.step ?_ | refine RegXS.step ?_); (conv => whnf)))
                  (first | refine ⟨.inl rfl, ?_⟩ | refine ⟨.inr (.inr rfl), ?_⟩ | refine ⟨.inr (.inr (loadK rfl (O.at (.head _)) rfl rfl)), ?_⟩ | refine ⟨.inr (.inr (loadK rfl (O.at (.tail _ (.head _))) rfl rfl)), ?_⟩ | refine ⟨.inr (.inr (loadK rfl (O.at (.tail _ (.tail _ (.head _)))) rfl rfl)), ?_⟩ | refine ⟨.inr (.inr (loadK rfl (O.at (.tail _ (.tail _ (.tail _ (.head _))))) rfl rfl)), ?_⟩ | refine ⟨.inr (.inr (loadK rfl (O.at (.tail _ (.tail _ (.tail _ (.tail _ (.head _)))))) rfl rfl)), ?_⟩ | refine ⟨.inr (.inr (loadK rfl (O.at (.tail _ (.tail _ (.tail _ (.tail _ (.tail _ (.head _))))))) rfl rfl)), ?_⟩ | refine ⟨.inr (.inr (loadK rfl (O.at (.tail _ (.tail _ (.tail _ (.tail _ (.tail _ (.tail _ (.head _)))))))) rfl rfl)), ?_⟩ | refine ⟨.inl (Ext.refl _), ?_⟩ | refine ⟨.inr (by kernel_rfl), ?_⟩ | refine ⟨.inl (by kernel_rfl), ?_⟩); ((conv => whnf); repeat ((first | refine CodeS.step ?_ | refine RegS.step ?_ | refine RegXS.step ?_); (conv => whnf)))
                  refine ⟨_, rfl, fun hc => ?_, fun hc => ?_⟩
                  · ((conv => whnf); repeat ((first | refine CodeS.step ?_ | refine RegS.step ?_ | refine RegXS.step ?_); (conv => whnf)))
                    refine indexK (s := 1) rfl rfl rfl rfl (by rw [vals_len, hcl']; exact hi) ?_; ((conv => whnf); repeat ((first | refine CodeS.step ?_ | refine RegS.step ?_ | refine RegXS.step ?_); (conv => whnf)))
                    (first | refine O.store (n := 1) (.head _) rfl rfl rfl rfl (by rw [vals_len]; omega) rfl (splice_vals (by omega)) fun h O => ?_ | refine O.store (n := 1) (.tail _ (.head _)) rfl rfl rfl rfl (by rw [vals_len]; omega) rfl (splice_vals (by omega)) fun h O => ?_ | refine O.store (n := 1) (.tail _ (.tail _ (.head _))) rfl rfl rfl rfl (by rw [vals_len]; omega) rfl (splice_vals (by omega)) fun h O => ?_ | refine O.store (n := 1) (.tail _ (.tail _ (.tail _ (.head _)))) rfl rfl rfl rfl (by rw [vals_len]; omega) rfl (splice_vals (by omega)) fun h O => ?_ | refine O.store (n := 1) (.tail _ (.tail _ (.tail _ (.tail _ (.head _))))) rfl rfl rfl rfl (by rw [vals_len]; omega) rfl (splice_vals (by omega)) fun h O => ?_ | refine O.store (n := 1) (.tail _ (.tail _ (.tail _ (.tail _ (.tail _ (.head _)))))) rfl rfl rfl rfl (by rw [vals_len]; omega) rfl (splice_vals (by omega)) fun h O => ?_ | refine O.store (n := 1) (.tail _ (.tail _ (.tail _ (.tail _ (.tail _ (.tail _ (.head _))))))) rfl rfl rfl rfl (by rw [vals_len]; omega) rfl (splice_vals (by omega)) fun h O => ?_); ((conv => whnf); repeat ((first | refine CodeS.step ?_ | refine RegS.step ?_ | refine RegXS.step ?_); (conv => whnf)))
                    refine ⟨_, addK (b := 1) rfl rfl (by omega), ?_⟩; ((conv => whnf); repeat ((first | refine CodeS.step ?_ | refine RegS.step ?_ | refine RegXS.step ?_); (conv => whnf)))
                    obtain ⟨q1, q2⟩ := nextp (c'.set i 2) (by simp [hl']) (fun j hj => List.getElem?_set_ne (by omega)) (by rw [List.getElem?_set_self (by omega), meet2, if_neg (by simpa using hc)])
                    exact ⟨_, ⟨⟨q1, q2⟩, O⟩, rfl, rfl, rfl, rfl, rfl, rfl, rfl, rfl, trivial⟩
                  · ((conv => whnf); repeat ((first | refine CodeS.step ?_ | refine RegS.step ?_ | refine RegXS.step ?_); (conv => whnf)))
                    refine ⟨_, addK (b := 1) rfl rfl (by omega), ?_⟩; ((conv => whnf); repeat ((first | refine CodeS.step ?_ | refine RegS.step ?_ | refine RegXS.step ?_); (conv => whnf)))
                    obtain ⟨q1, q2⟩ := nextp c' hl' (fun j hj => rfl) (by rw [hci, meet2, if_pos (by simpa using hc)])
                    exact ⟨_, ⟨⟨q1, q2⟩, O⟩, rfl, rfl, rfl, rfl, rfl, rfl, rfl, rfl, trivial⟩
                · rintro c' base h3 ⟨⟨hl', hp'⟩, O⟩
                  obtain rfl : c' = List.zipWith meet2 c x := by
                    apply List.ext_getElem?
                    intro j
                    rw [hp' j]
                    by_cases q : j < M + 1
                    · rw [if_pos q]
                    · rw [if_neg q, List.getElem?_eq_none (by omega), List.getElem?_eq_none (by omega)]
                  ((conv => whnf); repeat ((first | refine CodeS.step ?_ | refine RegS.step ?_ | refine RegXS.step ?_); (conv => whnf)))
                  refine ⟨_, rfl, (fun hx => nomatch (hx.symm.trans ((show (!ltI (Int.ofNat M) (Int.ofNat (M + 1))) = false by rw [lt_nat (by omega)]; rfl)))), fun _ => ?_⟩; ((conv => whnf); repeat ((first | refine CodeS.step ?_ | refine RegS.step ?_ | refine RegXS.step ?_); (conv => whnf)))
                  refine ⟨_, addK (b := 1) rfl rfl (by omega), ?_⟩; ((conv => whnf); repeat ((first | refine CodeS.step ?_ | refine RegS.step ?_ | refine RegXS.step ?_); (conv => whnf)))
                  have hg : growV 1 (some gc) (vals c) = growV 1 (some gc) (vals (List.zipWith meet2 c x)) := by unfold growV; rw [vals_len, vals_len, hcl', hl']
                  exact ⟨(some gc, List.zipWith meet2 c x), ⟨hstep3.symm, ⟨(fun e => by cases e), fun e => by have e : List.zipWith meet2 c x = [] := e; rw [e] at hl'; simp at hl'⟩, fun _ => hl', by simp only [flatC_vals]; exact O.tail⟩, rfl, rfl, rfl, rfl, hg, rfl, trivial⟩
          · have hgo : ¬ (o < 2 ∧ o ≠ y) := fun h => by rw [← hlt2] at hc2; exact absurd h.1 (of_decide_eq_false hc2)
            ((conv => whnf); repeat ((first | refine CodeS.step ?_ | refine RegS.step ?_ | refine RegXS.step ?_); (conv => whnf)))
            refine ⟨false, rfl, (fun hc => nomatch hc), fun _ => ?_⟩; ((conv => whnf); repeat ((first | refine CodeS.step ?_ | refine RegS.step ?_ | refine RegXS.step ?_); (conv => whnf)))
            ((conv => whnf); repeat ((first | refine CodeS.step ?_ | refine RegS.step ?_ | refine RegXS.step ?_); (conv => whnf)))
            refine NewG.frz rfl ?_; ((conv => whnf); repeat ((first | refine CodeS.step ?_ | refine RegS.step ?_ | refine RegXS.step ?_); (conv => whnf)))
            (first | refine O.append (s := 1) (b := 1) (m := 1) (new := [u8 y]) (.head _) (fun e => by rw [hax e]; rfl) rfl rfl rfl rfl rfl rfl rfl rfl rfl rfl rfl (by rw [hv2]; exact vals_one _) rfl (by decide) (by rw [vals_len, bitsTo_length]; omega) (hv2) fun ax' h ha O => ?_ | refine O.append (s := 1) (b := 1) (m := 1) (new := [u8 y]) (.tail _ (.head _)) (fun e => by rw [hax e]; rfl) rfl rfl rfl rfl rfl rfl rfl rfl rfl rfl rfl (by rw [hv2]; exact vals_one _) rfl (by decide) (by rw [vals_len, bitsTo_length]; omega) (hv2) fun ax' h ha O => ?_ | refine O.append (s := 1) (b := 1) (m := 1) (new := [u8 y]) (.tail _ (.tail _ (.head _))) (fun e => by rw [hax e]; rfl) rfl rfl rfl rfl rfl rfl rfl rfl rfl rfl rfl (by rw [hv2]; exact vals_one _) rfl (by decide) (by rw [vals_len, bitsTo_length]; omega) (hv2) fun ax' h ha O => ?_ | refine O.append (s := 1) (b := 1) (m := 1) (new := [u8 y]) (.tail _ (.tail _ (.tail _ (.head _)))) (fun e => by rw [hax e]; rfl) rfl rfl rfl rfl rfl rfl rfl rfl rfl rfl rfl (by rw [hv2]; exact vals_one _) rfl (by decide) (by rw [vals_len, bitsTo_length]; omega) (hv2) fun ax' h ha O => ?_ | refine O.append (s := 1) (b := 1) (m := 1) (new := [u8 y]) (.tail _ (.tail _ (.tail _ (.tail _ (.head _))))) (fun e => by rw [hax e]; rfl) rfl rfl rfl rfl rfl rfl rfl rfl rfl rfl rfl (by rw [hv2]; exact vals_one _) rfl (by decide) (by rw [vals_len, bitsTo_length]; omega) (hv2) fun ax' h ha O => ?_ | refine O.append (s := 1) (b := 1) (m := 1) (new := [u8 y]) (.tail _ (.tail _ (.tail _ (.tail _ (.tail _ (.head _)))))) (fun e => by rw [hax e]; rfl) rfl rfl rfl rfl rfl rfl rfl rfl rfl rfl rfl (by rw [hv2]; exact vals_one _) rfl (by decide) (by rw [vals_len, bitsTo_length]; omega) (hv2) fun ax' h ha O => ?_ | refine O.append (s := 1) (b := 1) (m := 1) (new := [u8 y]) (.tail _ (.tail _ (.tail _ (.tail _ (.tail _ (.tail _ (.head _))))))) (fun e => by rw [hax e]; rfl) rfl rfl rfl rfl rfl rfl rfl rfl rfl rfl rfl (by rw [hv2]; exact vals_one _) rfl (by decide) (by rw [vals_len, bitsTo_length]; omega) (hv2) fun ax' h ha O => ?_); ((conv => whnf); repeat ((first | refine CodeS.step ?_ | refine RegS.step ?_ | refine RegXS.step ?_); (conv => whnf)))
            obtain ⟨gx, rfl⟩ : ∃ g, ax' = some g := by
              cases ax' with
              | none => have := congrArg List.length (ha rfl); rw [vals_len, hxn] at this; simp at this
              | some g => exact ⟨g, rfl⟩
            simp only [flatC_vals] at O
            have hstep2 : meetTo (Int.ofNat K) o l M (b + 1) = joinL c x := by rw [hstep, if_pos ⟨rfl, hgo⟩, hx]
            have hxa : ∀ i, i < M + 1 → i < (vals x).length := fun i hi => by rw [vals_len, hxn]; exact hi
            have hxg : ∀ i, i < M + 1 → (vals x)[0 + i * 1]? = some (u8 (x.getD i 0)) := fun i hi => vals_at0 (by omega)
            cases ac with
            | none =>
              obtain rfl : c = [] := hn.1 rfl
              ((conv => whnf); repeat ((first | refine CodeS.step ?_ | refine RegS.step ?_ | refine RegXS.step ?_); (conv => whnf)))
              refine ⟨true, rfl, fun _ => ?_, (fun hc => nomatch hc)⟩; ((conv => whnf); repeat ((first | refine CodeS.step ?_ | refine RegS.step ?_ | refine RegXS.step ?_); (conv => whnf)))
              refine countG hM (by kernel_rfl) (nn := 195) (M + 1) (fun i (_ : Unit) h' => Own vars h0 [(some gx, .cells (vals x) false), (some g6, .cells (vals l) false)] h')
                (fun i _ => [(7, u8 (Int.ofNat K)), (8, .int .i64 (Int.ofNat M)), (11, u8 o), (12, .slice (some ⟨g6, 0, none⟩) M 6), (13, growV 1 (some gx) (vals x)), (14, .int .i64 (Int.ofNat b)), (15, growV 1 (some gx) (vals x)), (19, .int .i64 (Int.ofNat i))])
                rfl () O.second ⟨rfl, rfl, rfl, rfl, rfl, rfl, rfl, rfl, trivial⟩ ?_ ?_
              · rintro i _ base h3 hi O
                ((conv => whnf); repeat ((first | refine CodeS.step ?_ | refine RegS.step ?_ | refine RegXS.step ?_); (conv => whnf)))
                refine ⟨_, rfl, fun _ => ?_, (fun hx => nomatch (hx.symm.trans ((show (!ltI (Int.ofNat M) (Int.ofNat i)) = true by rw [ge_nat (by omega)]; rfl))))⟩; ((conv => whnf); repeat ((first | refine CodeS.step ?_ | refine RegS.step ?_ | refine RegXS.step ?_); (conv => whnf)))
                refine indexK (s := 1) rfl rfl rfl rfl (hxa i hi) ?_; ((conv => whnf); repeat ((first | refine CodeS.step ?_ | refine RegS.step ?_ | refine RegXS.step ?_); (conv => whnf)))
                (first | refine ⟨_, loadK rfl (O.at (.head _)) rfl (hxg i hi), ?_⟩ | refine ⟨_, loadK rfl (O.at (.tail _ (.head _))) rfl (hxg i hi), ?_⟩ | refine ⟨_, loadK rfl (O.at (.tail _ (.tail _ (.head _)))) rfl (hxg i hi), ?_⟩ | refine ⟨_, loadK rfl (O.at (.tail _ (.tail _ (.tail _ (.head _))))) rfl (hxg i hi), ?_⟩ | refine ⟨_, loadK rfl (O.at (.tail _ (.tail _ (.tail _ (.tail _ (.head _)))))) rfl (hxg i hi), ?_⟩ | refine ⟨_, loadK rfl (O.at (.tail _ (.tail _ (.tail _ (.tail _ (.tail _ (.head _))))))) rfl (hxg i hi), ?_⟩ | refine ⟨_, loadK rfl (O.at (.tail _ (.tail _ (.tail _ (.tail _ (.tail _ (.tail _ (.head _)))))))) rfl (hxg i hi), ?_⟩); ((conv => whnf); repeat ((first | refine CodeS.step ?_ | refine RegS.step ?_ | refine RegXS.step ?_); (conv => whnf)))
                (first | refine ⟨.inl rfl, ?_⟩ | refine ⟨.inr (.inr rfl), ?_⟩ | refine ⟨.inr (.inr (loadK rfl (O.at (.head _)) rfl rfl)), ?_⟩ | refine ⟨.inr (.inr (loadK rfl (O.at (.tail _ (.head _))) rfl rfl)), ?_⟩ | refine ⟨.inr (.inr (loadK rfl (O.at (.tail _ (.tail _ (.head _)))) rfl rfl)), ?_⟩ | refine ⟨.inr (.inr (loadK rfl (O.at (.tail _ (.tail _ (.tail _ (.head _))))) rfl rfl)), ?_⟩ | refine ⟨.inr (.inr (loadK rfl (O.at (.tail _ (.tail _ (.tail _ (.tail _ (.head _)))))) rfl rfl)), ?_⟩ | refine ⟨.inr (.inr (loadK rfl (O.at (.tail _ (.tail _ (.tail _ (.tail _ (.tail _ (.head _))))))) rfl rfl)), ?_⟩ | refine ⟨.inr (.inr (loadK rfl (O.at (.tail _ (.tail _ (.tail _ (.tail _ (.tail _ (.tail _ (.head _)))))))) rfl rfl)), ?_⟩ | refine ⟨.inl (Ext.refl _), ?_⟩ | refine ⟨.inr (by kernel_rfl), ?_⟩ | refine ⟨.inl (by kernel_rfl), ?_⟩); ((conv => whnf); repeat ((first | refine CodeS.step ?_ | refine RegS.step ?_ | refine RegXS.step ?_); (conv => whnf)))
                refine indexK (s := 1) rfl rfl rfl rfl (hxa i hi) ?_; ((conv => whnf); repeat ((first | refine CodeS.step ?_ | refine RegS.step ?_ | refine RegXS.step ?_); (conv => whnf)))
                (first | refine ⟨_, loadK rfl (O.at (.head _)) rfl (hxg i hi), ?_⟩ | refine ⟨_, loadK rfl (O.at (.tail _ (.head _))) rfl (hxg i hi), ?_⟩ | refine ⟨_, loadK rfl (O.at (.tail _ (.tail _ (.head _)))) rfl (hxg i hi), ?_⟩ | refine ⟨_, loadK rfl (O.at (.tail _ (.tail _ (.tail _ (.head _))))) rfl (hxg i hi), ?_⟩ | refine ⟨_, loadK rfl (O.at (.tail _ (.tail _ (.tail _ (.tail _ (.head _)))))) rfl (hxg i hi), ?_⟩ | refine ⟨_, loadK rfl (O.at (.tail _ (.tail _ (.tail _ (.tail _ (.tail _ (.head _))))))) rfl (hxg i hi), ?_⟩ | refine ⟨_, loadK rfl (O.at (.tail _ (.tail _ (.tail _ (.tail _ (.tail _ (.tail _ (.head _)))))))) rfl (hxg i hi), ?_⟩); ((conv => whnf); repeat ((first | refine CodeS.step ?_ | refine RegS.step ?_ | refine RegXS.step ?_); (conv => whnf)))
                (first | refine ⟨.inl rfl, ?_⟩ | refine ⟨.inr (.inr rfl), ?_⟩ | refine ⟨.inr (.inr (loadK rfl (O.at (.head _)) rfl rfl)), ?_⟩ | refine ⟨.inr (.inr (loadK rfl (O.at (.tail _ (.head _))) rfl rfl)), ?_⟩ | refine ⟨.inr (.inr (loadK rfl (O.at (.tail _ (.tail _ (.head _)))) rfl rfl)), ?_⟩ | refine ⟨.inr (.inr (loadK rfl (O.at (.tail _ (.tail _ (.tail _ (.head _))))) rfl rfl)), ?_⟩ | refine ⟨.inr (.inr (loadK rfl (O.at (.tail _ (.tail _ (.tail _ (.tail _ (.head _)))))) rfl rfl)), ?_⟩ | refine ⟨.inr (.inr (loadK rfl (O.at (.tail _ (.tail _ (.tail _ (.tail _ (.tail _ (.head _))))))) rfl rfl)), ?_⟩ | refine ⟨.inr (.inr (loadK rfl (O.at (.tail _ (.tail _ (.tail _ (.tail _ (.tail _ (.tail _ (.head _)))))))) rfl rfl)), ?_⟩ | refine ⟨.inl (Ext.refl _), ?_⟩ | refine ⟨.inr (by kernel_rfl), ?_⟩ | refine ⟨.inl (by kernel_rfl), ?_⟩); ((conv => whnf); repeat ((first | refine CodeS.step ?_ | refine RegS.step ?_ | refine RegXS.step ?_); (conv => whnf)))
                refine ⟨_, rfl, (fun hx => nomatch (hx.symm.trans ((show (x.getD i 0 != x.getD i 0) = false by simp)))), fun _ => ?_⟩; ((conv => whnf); repeat ((first | refine CodeS.step ?_ | refine RegS.step ?_ | refine RegXS.step ?_); (conv => whnf)))
                refine ⟨_, addK (b := 1) rfl rfl (by omega), ?_⟩; ((conv => whnf); repeat ((first | refine CodeS.step ?_ | refine RegS.step ?_ | refine RegXS.step ?_); (conv => whnf)))
                exact ⟨(), O, rfl, rfl, rfl, rfl, rfl, rfl, rfl, rfl, trivial⟩
              · rintro _ base h3 O
                ((conv => whnf); repeat ((first | refine CodeS.step ?_ | refine RegS.step ?_ | refine RegXS.step ?_); (conv => whnf)))
                refine ⟨_, rfl, (fun hx => nomatch (hx.symm.trans ((show (!ltI (Int.ofNat M) (Int.ofNat (M + 1))) = false by rw [lt_nat (by omega)]; rfl)))), fun _ => ?_⟩; ((conv => whnf); repeat ((first | refine CodeS.step ?_ | refine RegS.step ?_ | refine RegXS.step ?_); (conv => whnf)))
                refine ⟨_, addK (b := 1) rfl rfl (by omega), ?_⟩; ((conv => whnf); repeat ((first | refine CodeS.step ?_ | refine RegS.step ?_ | refine RegXS.step ?_); (conv => whnf)))
                exact ⟨(some gx, x), ⟨hstep2.symm, ⟨(fun e => by cases e), fun e => by have e : x = [] := e; rw [e] at hxn; simp at hxn⟩, fun _ => hxn, by simp only [flatC_vals]; exact O⟩, rfl, rfl, rfl, rfl, rfl, rfl, trivial⟩
            | some gc =>
              have hcne : c ≠ [] := fun e => by have := hn.2 e; cases this
              have hcl' := hcl hcne
              have hstep3 : meetTo (Int.ofNat K) o l M (b + 1) = List.zipWith meet2 c x := by
                rw [hstep2]
                cases c with
                | nil => exact absurd rfl hcne
                | cons _ _ => rfl
              have hzl : (List.zipWith meet2 c x).length = M + 1 := by rw [List.length_zipWith, hcl', hxn, Nat.min_self]
              ((conv => whnf); repeat ((first | refine CodeS.step ?_ | refine RegS.step ?_ | refine RegXS.step ?_); (conv => whnf)))
              refine ⟨false, rfl, (fun hc => nomatch hc), fun _ => ?_⟩; ((conv => whnf); repeat ((first | refine CodeS.step ?_ | refine RegS.step ?_ | refine RegXS.step ?_); (conv => whnf)))
              refine countG hM (by kernel_rfl) (nn := 195) (M + 1) (fun i (c' : List Int) h' => (c'.length = M + 1 ∧ ∀ j, c'[j]? = if j < i then (List.zipWith meet2 c x)[j]? else c[j]?) ∧ Own vars h0 [(some gx, .cells (vals x) false), (some gc, .cells (vals c') false), (some g6, .cells (vals l) false)] h')
                (fun i _ => [(7, u8 (Int.ofNat K)), (8, .int .i64 (Int.ofNat M)), (11, u8 o), (12, .slice (some ⟨g6, 0, none⟩) M 6), (13, growV 1 (some gc) (vals c)), (14, .int .i64 (Int.ofNat b)), (15, growV 1 (some gx) (vals x)), (19, .int .i64 (Int.ofNat i))])
                rfl c ⟨⟨hcl', fun j => by rw [if_neg (Nat.not_lt_zero j)]⟩, O⟩ ⟨rfl, rfl, rfl, rfl, rfl, rfl, rfl, rfl, trivial⟩ ?_ ?_
              · rintro i c' base h3 hi ⟨⟨hl', hp'⟩, O⟩
                have hci : c'[i]? = some (c.getD i 0) := by rw [hp' i, if_neg (Nat.lt_irrefl i), List.getD, List.getElem?_eq_getElem (by omega)]; rfl
                have hcg : (vals c')[0 + i * 1]? = some (u8 (c.getD i 0)) := by rw [vals_at0 (by omega), List.getD, hci]; rfl
                have hzi : (List.zipWith meet2 c x)[i]? = some (meet2 (c.getD i 0) (x.getD i 0)) := by
                  rw [List.getElem?_zipWith, List.getElem?_eq_getElem (by omega : i < c.length), List.getElem?_eq_getElem (by omega : i < x.length), List.getD, List.getD, List.getElem?_eq_getElem (by omega : i < c.length), List.getElem?_eq_getElem (by omega : i < x.length)]
                  rfl
                have nextp : ∀ c'' : List Int, c''.length = M + 1 → (∀ j, j ≠ i → c''[j]? = c'[j]?) → c''[i]? = some (meet2 (c.getD i 0) (x.getD i 0)) → (c''.length = M + 1 ∧ ∀ j, c''[j]? = if j < i + 1 then (List.zipWith meet2 c x)[j]? else c[j]?) := by
                  intro c'' h1 h2 h3
                  refine ⟨h1, fun j => ?_⟩
                  by_cases q : j = i
                  · subst q; rw [if_pos (Nat.lt_succ_self j), h3, hzi]
                  · rw [h2 j q, hp' j]
                    by_cases q2 : j < i
                    · rw [if_pos q2, if_pos (by omega)]
                    · rw [if_neg q2, if_neg (by omega)]
                ((conv => whnf); repeat ((first | refine CodeS.step ?_ | refine RegS.step ?_ | refine RegXS.step ?_); (conv => whnf)))
                refine ⟨_, rfl, fun _ => ?_, (fun hx => nomatch (hx.symm.trans ((show (!ltI (Int.ofNat M) (Int.ofNat i)) = true by rw [ge_nat (by omega)]; rfl))))⟩; ((conv => whnf); repeat ((first | refine CodeS.step ?_ | refine RegS.step ?_ | refine RegXS.step ?_); (conv => whnf)))
                refine indexK (s := 1) rfl rfl rfl rfl (by rw [vals_len, hcl']; exact hi) ?_; ((conv => whnf); repeat ((first | refine CodeS.step ?_ | refine RegS.step ?_ | refine RegXS.step ?_); (conv => whnf)))
                (first | refine ⟨_, loadK rfl (O.at (.head _)) rfl (hcg), ?_⟩ | refine ⟨_, loadK rfl (O.at (.tail _ (.head _))) rfl (hcg), ?_⟩ | refine ⟨_, loadK rfl (O.at (.tail _ (.tail _ (.head _)))) rfl (hcg), ?_⟩ | refine ⟨_, loadK rfl (O.at (.tail _ (.tail _ (.tail _ (.head _))))) rfl (hcg), ?_⟩ | refine ⟨_, loadK rfl (O.at (.tail _ (.tail _ (.tail _ (.tail _ (.head _)))))) rfl (hcg), ?_⟩ | refine ⟨_, loadK rfl (O.at (.tail _ (.tail _ (.tail _ (.tail _ (.tail _ (.head _))))))) rfl (hcg), ?_⟩ | refine ⟨_, loadK rfl (O.at (.tail _ (.tail _ (.tail _ (.tail _ (.tail _ (.tail _ (.head _)))))))) rfl (hcg), ?_⟩); ((conv => whnf); repeat ((first | refine CodeS.step ?_ | refine RegS.step ?_ | refine RegXS.step ?_); (conv => whnf)))
                (first | refine ⟨.inl rfl, ?_⟩ | refine ⟨.inr (.inr rfl), ?_⟩ | refine ⟨.inr (.inr (loadK rfl (O.at (.head _)) rfl rfl)), ?_⟩ | refine ⟨.inr (.inr (loadK rfl (O.at (.tail _ (.head _))) rfl rfl)), ?_⟩ | refine ⟨.inr (.inr (loadK rfl (O.at (.tail _ (.tail _ (.head _)))) rfl rfl)), ?_⟩ | refine ⟨.inr (.inr (loadK rfl (O.at (.tail _ (.tail _ (.tail _ (.head _))))) rfl rfl)), ?_⟩ | refine ⟨.inr (.inr (loadK rfl (O.at (.tail _ (.tail _ (.tail _ (.tail _ (.head _)))))) rfl rfl)), ?_⟩ | refine ⟨.inr (.inr (loadK rfl (O.at (.tail _ (.tail _ (.tail _ (.tail _ (.tail _ (.head _))))))) rfl rfl)), ?_⟩ | refine ⟨.inr (.inr (loadK rfl (O.at (.tail _ (.tail _ (.tail _ (.tail _ (.tail _ (.tail _ (.head _)))))))) rfl rfl)), ?_⟩ | refine ⟨.inl (Ext.refl _), ?_⟩ | refine ⟨.inr (by kernel_rfl), ?_⟩ | refine ⟨.inl (by kernel_rfl), ?_⟩); ((conv => whnf); repeat ((first | refine CodeS.step ?_ | refine RegS.step ?_ | refine RegXS.step ?_); (conv => whnf)))
                refine indexK (s := 1) rfl rfl rfl rfl (hxa i hi) ?_; ((conv => whnf); repeat ((first | refine CodeS.step ?_ | refine RegS.step ?_ | refine RegXS.step ?_); (conv => whnf)))
                (first | refine ⟨_, loadK rfl (O.at (.head _)) rfl (hxg i hi), ?_⟩ | refine ⟨_, loadK rfl (O.at (.tail _ (.head _))) rfl (hxg i hi), ?_⟩ | refine ⟨_, loadK rfl (O.at (.tail _ (.tail _ (.head _)))) rfl (hxg i hi), ?_⟩ | refine ⟨_, loadK rfl (O.at (.tail _ (.tail _ (.tail _ (.head _))))) rfl (hxg i hi), ?_⟩ | refine ⟨_, loadK rfl (O.at (.tail _ (.tail _ (.tail _ (.tail _ (.head _)))))) rfl (hxg i hi), ?_⟩ | refine ⟨_, loadK rfl (O.at (.tail _ (.tail _ (.tail _ (.tail _ (.tail _ (.head _))))))) rfl (hxg i hi), ?_⟩ | refine ⟨_, loadK rfl (O.at (.tail _ (.tail _ (.tail _ (.tail _ (.tail _ (.tail _ (.head _)))))))) rfl (hxg i hi), ?_⟩); ((conv => whnf); repeat ((first | refine CodeS.step ?_ | refine RegS.step ?_ | refine RegXS.step ?_); (conv => whnf)))
                (first | refine ⟨.inl rfl, ?_⟩ | refine ⟨.inr (.inr rfl), ?_⟩ | refine ⟨.inr (.inr (loadK rfl (O.at (.head _)) rfl rfl)), ?_⟩ | refine ⟨.inr (.inr (loadK rfl (O.at (.tail _ (.head _))) rfl rfl)), ?_⟩ | refine ⟨.inr (.inr (loadK rfl (O.at (.tail _ (.tail _ (.head _)))) rfl rfl)), ?_⟩ | refine ⟨.inr (.inr (loadK rfl (O.at (.tail _ (.tail _ (.tail _ (.head _))))) rfl rfl)), ?_⟩ | refine ⟨.inr (.inr (loadK rfl (O.at (.tail _ (.tail _ (.tail _ (.tail _ (.head _)))))) rfl rfl)), ?_⟩ | refine ⟨.inr (.inr (loadK rfl (O.at (.tail _ (.tail _ (.tail _ (.tail _ (.tail _ (.head _))))))) rfl rfl)), ?_⟩ | refine ⟨.inr (.inr (loadK rfl (O.at (.tail _ (.tail _ (.tail _ (.tail _ (.tail _ (.tail _ (.head _)))))))) rfl rfl)), ?_⟩ | refine ⟨.inl (Ext.refl _), ?_⟩ | refine ⟨.inr (by kernel_rfl), ?_⟩ | refine ⟨.inl (by kernel_rfl), ?_⟩); ((conv => whnf); repeat ((first | refine CodeS.step ?_ | refine RegS.step ?_ | refine RegXS.step ?_); (conv => whnf)))
                refine ⟨_, rfl, fun hc => ?_, fun hc => ?_⟩
                · ((conv => whnf); repeat ((first | refine CodeS.step ?_ | refine RegS.step ?_ | refine RegXS.step ?_); (conv => whnf)))
                  refine indexK (s := 1) rfl rfl rfl rfl (by rw [vals_len, hcl']; exact hi) ?_; ((conv => whnf); repeat ((first | refine CodeS.step ?_ | refine RegS.step ?_ | refine RegXS.step ?_); (conv => whnf)))
                  (first | refine O.store (n := 1) (.head _) rfl rfl rfl rfl (by rw [vals_len]; omega) rfl (splice_vals (by omega)) fun h O => ?_ | refine O.store (n := 1) (.tail _ (.head _)) rfl rfl rfl rfl (by rw [vals_len]; omega) rfl (splice_vals (by omega)) fun h O => ?_ | refine O.store (n := 1) (.tail _ (.tail _ (.head _))) rfl rfl rfl rfl (by rw [vals_len]; omega) rfl (splice_vals (by omega)) fun h O => ?_ | refine O.store (n := 1) (.tail _ (.tail _ (.tail _ (.head _)))) rfl rfl rfl rfl (by rw [vals_len]; omega) rfl (splice_vals (by omega)) fun h O => ?_ | refine O.store (n := 1) (.tail _ (.tail _ (.tail _ (.tail _ (.head _))))) rfl rfl rfl rfl (by rw [vals_len]; omega) rfl (splice_vals (by omega)) fun h O => ?_ | refine O.store (n := 1) (.tail _ (.tail _ (.tail _ (.tail _ (.tail _ (.head _)))))) rfl rfl rfl rfl (by rw [vals_len]; omega) rfl (splice_vals (by omega)) fun h O => ?_ | refine O.store (n := 1) (.tail _ (.tail _ (.tail _ (.tail _ (.tail _ (.tail _ (.head _))))))) rfl rfl rfl rfl (by rw [vals_len]; omega) rfl (splice_vals (by omega)) fun h O => ?_); ((conv => whnf); repeat ((first | refine CodeS.step ?_ | refine RegS.step ?_ | refine RegXS.step ?_); (conv => whnf)))
                  refine ⟨_, addK (b := 1) rfl rfl (by omega), ?_⟩; ((conv => whnf); repeat ((first | refine CodeS.step ?_ | refine RegS.step ?_ | refine RegXS.step ?_); (conv => whnf)))
                  obtain ⟨q1, q2⟩ := nextp (c'.set i 2) (by simp [hl']) (fun j hj => List.getElem?_set_ne (by omega)) (by rw [List.getElem?_set_self (by omega), meet2, if_neg (by simpa using hc)])
                  exact ⟨_, ⟨⟨q1, q2⟩, O⟩, rfl, rfl, rfl, rfl, rfl, rfl, rfl, rfl, trivial⟩
                · ((conv => whnf); repeat ((first | refine CodeS.step ?_ | refine RegS.step ?_ | refine RegXS.step ?_); (conv => whnf)))
                  refine ⟨_, addK (b := 1) rfl rfl (by omega), ?_⟩; ((conv => whnf); repeat ((first | refine CodeS.step ?_ | refine RegS.step ?_ | refine RegXS.step ?_); (conv => whnf)))
                  obtain ⟨q1, q2⟩ := nextp c' hl' (fun j hj => rfl) (by rw [hci, meet2, if_pos (by simpa using hc)])
                  exact ⟨_, ⟨⟨q1, q2⟩, O⟩, rfl, rfl, rfl, rfl, rfl, rfl, rfl, rfl, trivial⟩
              · rintro c' base h3 ⟨⟨hl', hp'⟩, O⟩
                obtain rfl : c' = List.zipWith meet2 c x := by
                  apply List.ext_getElem?
                  intro j
                  rw [hp' j]
                  by_cases q : j < M + 1
                  · rw [if_pos q]
                  · rw [if_neg q, List.getElem?_eq_none (by omega), List.getElem?_eq_none (by omega)]
                ((conv => whnf); repeat ((first | refine CodeS.step ?_ | refine RegS.step ?_ | refine RegXS.step ?_); (conv => whnf)))
                refine ⟨_, rfl, (fun hx => nomatch (hx.symm.trans ((show (!ltI (Int.ofNat M) (Int.ofNat (M + 1))) = false by rw [lt_nat (by omega)]; rfl)))), fun _ => ?_⟩; ((conv => whnf); repeat ((first | refine CodeS.step ?_ | refine RegS.step ?_ | refine RegXS.step ?_); (conv => whnf)))
                refine ⟨_, addK (b := 1) rfl rfl (by omega), ?_⟩; ((conv => whnf); repeat ((first | refine CodeS.step ?_ | refine RegS.step ?_ | refine RegXS.step ?_); (conv => whnf)))
                have hg : growV 1 (some gc) (vals c) = growV 1 (some gc) (vals (List.zipWith meet2 c x)) := by unfold growV; rw [vals_len, vals_len, hcl', hl']
                exact ⟨(some gc, List.zipWith meet2 c x), ⟨hstep3.symm, ⟨(fun e => by cases e), fun e => by have e : List.zipWith meet2 c x = [] := e; rw [e] at hl'; simp at hl'⟩, fun _ => hl', by simp only [flatC_vals]; exact O.tail⟩, rfl, rfl, rfl, rfl, hg, rfl, trivial⟩
    · rintro ⟨ac, c⟩ base h1 ⟨hc, hn, hcl, O⟩
      simp only at hc hn hcl O
      ((conv => whnf); repeat ((first | refine CodeS.step ?_ | refine RegS.step ?_ | refine RegXS.step ?_); (conv => whnf)))
      refine ⟨_, shiftK (.inl rfl) rfl rfl (shl_small M (by omega)), ?_⟩; ((conv => whnf); repeat ((first | refine CodeS.step ?_ | refine RegS.step ?_ | refine RegXS.step ?_); (conv => whnf)))
      refine ⟨_, rfl, (fun hx => nomatch (hx.symm.trans (lt_end (2 ^ M)))), fun _ => ?_⟩; ((conv => whnf); repeat ((first | refine CodeS.step ?_ | refine RegS.step ?_ | refine RegXS.step ?_); (conv => whnf)))
      have hl0 : ∀ x ∈ l.take M, 0 ≤ x := fun x hx => hL0 x (List.mem_of_mem_take hx)
      have ho0 : 0 ≤ o := by
        rw [← ho, List.getD, List.getElem?_eq_getElem (by omega)]
        exact hL0 _ (List.getElem_mem _)
      have htl : (l.take M).length = M := by rw [List.length_take]; omega
      have F := gate_fn hKn hK256 ho0 hl0 (by rw [htl]; omega)
      rw [final, ← hc] at F
      have hle : ∀ h2 : Heap, h2.get g6 = some (.cells (vals l) true) → LLe h2 [u8 (Int.ofNat K), u8 o, .slice (some ⟨g6, 0, none⟩) M 6] [u8 (Int.ofNat K), u8 o, FL 1 (vals (l.take M))] := fun h2 F => by
        refine LLe.cons (VLe.refl _ _) (LLe.cons (VLe.refl _ _) (LLe.cons (VLe.fl F (by rw [vals_len, htl]) (vals_one _) (by rw [vals_len]; omega) ?_) (LLe.nil _)))
        have : flatC (vals (l.take M)) = ((vals l).drop 0).take (M * 1) := by
          rw [flatC_vals, List.drop_zero, Nat.mul_one]
          unfold vals
          rw [List.map_take]
        rw [this]
        exact LLe.refl _ _
      cases c with
      | nil =>
        obtain rfl : ac = none := hn.2 rfl
        (first | refine FnV.goF (F) O (.head _) (i := 2) rfl (by kernel_rfl) (fun h2 F => hle h2 F) fun h O => ?_ | refine FnV.goF (F) O (.tail _ (.head _)) (i := 2) rfl (by kernel_rfl) (fun h2 F => hle h2 F) fun h O => ?_ | refine FnV.goF (F) O (.tail _ (.tail _ (.head _))) (i := 2) rfl (by kernel_rfl) (fun h2 F => hle h2 F) fun h O => ?_ | refine FnV.goF (F) O (.tail _ (.tail _ (.tail _ (.head _)))) (i := 2) rfl (by kernel_rfl) (fun h2 F => hle h2 F) fun h O => ?_ | refine FnV.goF (F) O (.tail _ (.tail _ (.tail _ (.tail _ (.head _))))) (i := 2) rfl (by kernel_rfl) (fun h2 F => hle h2 F) fun h O => ?_ | refine FnV.goF (F) O (.tail _ (.tail _ (.tail _ (.tail _ (.tail _ (.head _)))))) (i := 2) rfl (by kernel_rfl) (fun h2 F => hle h2 F) fun h O => ?_ | refine FnV.goF (F) O (.tail _ (.tail _ (.tail _ (.tail _ (.tail _ (.tail _ (.head _))))))) (i := 2) rfl (by kernel_rfl) (fun h2 F => hle h2 F) fun h O => ?_); ((conv => whnf); repeat ((first | refine CodeS.step ?_ | refine RegS.step ?_ | refine RegXS.step ?_); (conv => whnf)))
        ((conv => whnf); repeat ((first | refine CodeS.step ?_ | refine RegS.step ?_ | refine RegXS.step ?_); (conv => whnf))); repeat ((first | refine ⟨true, rfl, fun _ => ?_, (fun hc => nomatch hc)⟩ | refine ⟨false, rfl, (fun hc => nomatch hc), fun _ => ?_⟩ | refine ⟨_, (rfl : aread _ _ _ _ = some _), ?_⟩ | refine ⟨_, loadK rfl (O.at (.head _)) rfl rfl, ?_⟩ | refine ⟨_, loadK rfl (O.at (.tail _ (.head _))) rfl rfl, ?_⟩ | refine ⟨_, loadK rfl (O.at (.tail _ (.tail _ (.head _)))) rfl rfl, ?_⟩ | refine ⟨_, loadK rfl (O.at (.tail _ (.tail _ (.tail _ (.head _))))) rfl rfl, ?_⟩ | refine ⟨_, loadK rfl (O.at (.tail _ (.tail _ (.tail _ (.tail _ (.head _)))))) rfl rfl, ?_⟩ | refine ⟨_, loadK rfl (O.at (.tail _ (.tail _ (.tail _ (.tail _ (.tail _ (.head _))))))) rfl rfl, ?_⟩ | refine ⟨_, loadK rfl (O.at (.tail _ (.tail _ (.tail _ (.tail _ (.tail _ (.tail _ (.head _)))))))) rfl rfl, ?_⟩ | refine ⟨_, loadAggK rfl (O.at (.head _)) rfl rfl (Nat.le_of_ble_eq_true rfl) rfl, ?_⟩ | refine ⟨_, loadAggK rfl (O.at (.tail _ (.head _))) rfl rfl (Nat.le_of_ble_eq_true rfl) rfl, ?_⟩ | refine ⟨_, loadAggK rfl (O.at (.tail _ (.tail _ (.head _)))) rfl rfl (Nat.le_of_ble_eq_true rfl) rfl, ?_⟩ | refine ⟨_, loadAggK rfl (O.at (.tail _ (.tail _ (.tail _ (.head _))))) rfl rfl (Nat.le_of_ble_eq_true rfl) rfl, ?_⟩ | refine ⟨_, loadAggK rfl (O.at (.tail _ (.tail _ (.tail _ (.tail _ (.head _)))))) rfl rfl (Nat.le_of_ble_eq_true rfl) rfl, ?_⟩ | refine ⟨_, loadAggK rfl (O.at (.tail _ (.tail _ (.tail _ (.tail _ (.tail _ (.head _))))))) rfl rfl (Nat.le_of_ble_eq_true rfl) rfl, ?_⟩ | refine ⟨_, loadAggK rfl (O.at (.tail _ (.tail _ (.tail _ (.tail _ (.tail _ (.tail _ (.head _)))))))) rfl rfl (Nat.le_of_ble_eq_true rfl) rfl, ?_⟩ | refine idxR rfl ?_ | refine sliceR rfl ?_ | refine ⟨_, addK (b := 1) rfl rfl (by omega), ?_⟩ | refine ⟨_, addK rfl rfl (by omega), ?_⟩ | refine ⟨_, convIntK rfl rfl rfl (u8_wide _ (by omega)), ?_⟩ | refine ⟨_, remK rfl rfl (by omega), ?_⟩ | refine ⟨_, remK (b := 2) rfl rfl (by decide), ?_⟩ | refine ⟨_, remK (b := 3) rfl rfl (by decide), ?_⟩ | refine ⟨_, remK (b := 4) rfl rfl (by decide), ?_⟩ | refine ⟨_, remK (b := 9) rfl rfl (by decide), ?_⟩ | refine ⟨_, remK (b := 10) rfl rfl (by decide), ?_⟩ | refine ⟨_, remK (b := 13) rfl rfl (by decide), ?_⟩ | refine ⟨.inl rfl, ?_⟩ | refine ⟨.inr (.inr rfl), ?_⟩ | refine ⟨.inr (.inr (loadK rfl (O.at (.head _)) rfl rfl)), ?_⟩ | refine ⟨.inr (.inr (loadK rfl (O.at (.tail _ (.head _))) rfl rfl)), ?_⟩ | refine ⟨.inr (.inr (loadK rfl (O.at (.tail _ (.tail _ (.head _)))) rfl rfl)), ?_⟩ | refine ⟨.inr (.inr (loadK rfl (O.at (.tail _ (.tail _ (.tail _ (.head _))))) rfl rfl)), ?_⟩ | refine ⟨.inr (.inr (loadK rfl (O.at (.tail _ (.tail _ (.tail _ (.tail _ (.head _)))))) rfl rfl)), ?_⟩ | refine ⟨.inr (.inr (loadK rfl (O.at (.tail _ (.tail _ (.tail _ (.tail _ (.tail _ (.head _))))))) rfl rfl)), ?_⟩ | refine ⟨.inr (.inr (loadK rfl (O.at (.tail _ (.tail _ (.tail _ (.tail _ (.tail _ (.tail _ (.head _)))))))) rfl rfl)), ?_⟩ | refine ⟨.inl (Ext.refl _), ?_⟩ | refine ⟨.inr (by kernel_rfl), ?_⟩ | refine ⟨.inl (by kernel_rfl), ?_⟩ | refine O.store (.head _) rfl rfl rfl rfl (Nat.le_of_ble_eq_true rfl) rfl rfl fun h O => ?_ | refine O.store (.tail _ (.head _)) rfl rfl rfl rfl (Nat.le_of_ble_eq_true rfl) rfl rfl fun h O => ?_ | refine O.store (.tail _ (.tail _ (.head _))) rfl rfl rfl rfl (Nat.le_of_ble_eq_true rfl) rfl rfl fun h O => ?_ | refine O.store (.tail _ (.tail _ (.tail _ (.head _)))) rfl rfl rfl rfl (Nat.le_of_ble_eq_true rfl) rfl rfl fun h O => ?_ | refine O.store (.tail _ (.tail _ (.tail _ (.tail _ (.head _))))) rfl rfl rfl rfl (Nat.le_of_ble_eq_true rfl) rfl rfl fun h O => ?_ | refine O.store (.tail _ (.tail _ (.tail _ (.tail _ (.tail _ (.head _)))))) rfl rfl rfl rfl (Nat.le_of_ble_eq_true rfl) rfl rfl fun h O => ?_ | refine O.store (.tail _ (.tail _ (.tail _ (.tail _ (.tail _ (.tail _ (.head _))))))) rfl rfl rfl rfl (Nat.le_of_ble_eq_true rfl) rfl rfl fun h O => ?_); ((conv => whnf); repeat ((first | refine CodeS.step ?_ | refine RegS.step ?_ | refine RegXS.step ?_); (conv => whnf))))
        refine FnV.go (lives_fn) O ?_; ((conv => whnf); repeat ((first | refine CodeS.step ?_ | refine RegS.step ?_ | refine RegXS.step ?_); (conv => whnf)))
        exact O.ret
      | cons c0 cr =>
        have hcl' := hcl (by simp)
        generalize hcc : c0 :: cr = c at O F hcl' hn
        obtain ⟨gc, rfl⟩ : ∃ g, ac = some g := by
          cases ac with
          | none => have := hn.1 rfl; rw [← hcc] at this; simp at this
          | some g => exact ⟨g, rfl⟩
        simp only [flatC_vals] at O
        have hca : ∀ i, i < M + 1 → i < (vals c).length := fun i hi => by rw [vals_len, hcl']; exact hi
        have hcg : ∀ i, i < M + 1 → (vals c)[0 + i * 1]? = some (u8 (c.getD i 0)) := fun i hi => vals_at0 (by omega)
        have F' : FnV Tryd.prog NG vars 11 #[u8 (Int.ofNat K), u8 o, FL 1 (vals (l.take M))] (gateVal (some (c.getD M 0, c.take M))) := by rw [← hcc]; rw [← hcc] at F; exact F
        have hgl : (vals (c.take M)).length = M := by rw [vals_len, List.length_take]; omega
        have hgg : ∀ i, i < M → (vals (c.take M))[i]? = some (u8 (c.getD i 0)) := fun i hi => by
          unfold vals
          rw [List.getElem?_map, List.getElem?_take, if_pos hi, List.getD, List.getElem?_eq_getElem (by omega)]
          rfl
        (first | refine FnV.goF (F') O (.head _) (i := 2) rfl (by kernel_rfl) (fun h2 F => hle h2 F) fun h O => ?_ | refine FnV.goF (F') O (.tail _ (.head _)) (i := 2) rfl (by kernel_rfl) (fun h2 F => hle h2 F) fun h O => ?_ | refine FnV.goF (F') O (.tail _ (.tail _ (.head _))) (i := 2) rfl (by kernel_rfl) (fun h2 F => hle h2 F) fun h O => ?_ | refine FnV.goF (F') O (.tail _ (.tail _ (.tail _ (.head _)))) (i := 2) rfl (by kernel_rfl) (fun h2 F => hle h2 F) fun h O => ?_ | refine FnV.goF (F') O (.tail _ (.tail _ (.tail _ (.tail _ (.head _))))) (i := 2) rfl (by kernel_rfl) (fun h2 F => hle h2 F) fun h O => ?_ | refine FnV.goF (F') O (.tail _ (.tail _ (.tail _ (.tail _ (.tail _ (.head _)))))) (i := 2) rfl (by kernel_rfl) (fun h2 F => hle h2 F) fun h O => ?_ | refine FnV.goF (F') O (.tail _ (.tail _ (.tail _ (.tail _ (.tail _ (.tail _ (.head _))))))) (i := 2) rfl (by kernel_rfl) (fun h2 F => hle h2 F) fun h O => ?_); ((conv => whnf); repeat ((first | refine CodeS.step ?_ | refine RegS.step ?_ | refine RegXS.step ?_); (conv => whnf)))
        ((conv => whnf); repeat ((first | refine CodeS.step ?_ | refine RegS.step ?_ | refine RegXS.step ?_); (conv => whnf))); repeat ((first | refine ⟨true, rfl, fun _ => ?_, (fun hc => nomatch hc)⟩ | refine ⟨false, rfl, (fun hc => nomatch hc), fun _ => ?_⟩ | refine ⟨_, (rfl : aread _ _ _ _ = some _), ?_⟩ | refine ⟨_, loadK rfl (O.at (.head _)) rfl rfl, ?_⟩ | refine ⟨_, loadK rfl (O.at (.tail _ (.head _))) rfl rfl, ?_⟩ | refine ⟨_, loadK rfl (O.at (.tail _ (.tail _ (.head _)))) rfl rfl, ?_⟩ | refine ⟨_, loadK rfl (O.at (.tail _ (.tail _ (.tail _ (.head _))))) rfl rfl, ?_⟩ | refine ⟨_, loadK rfl (O.at (.tail _ (.tail _ (.tail _ (.tail _ (.head _)))))) rfl rfl, ?_⟩ | refine ⟨_, loadK rfl (O.at (.tail _ (.tail _ (.tail _ (.tail _ (.tail _ (.head _))))))) rfl rfl, ?_⟩ | refine ⟨_, loadK rfl (O.at (.tail _ (.tail _ (.tail _ (.tail _ (.tail _ (.tail _ (.head _)))))))) rfl rfl, ?_⟩ | refine ⟨_, loadAggK rfl (O.at (.head _)) rfl rfl (Nat.le_of_ble_eq_true rfl) rfl, ?_⟩ | refine ⟨_, loadAggK rfl (O.at (.tail _ (.head _))) rfl rfl (Nat.le_of_ble_eq_true rfl) rfl, ?_⟩ | refine ⟨_, loadAggK rfl (O.at (.tail _ (.tail _ (.head _)))) rfl rfl (Nat.le_of_ble_eq_true rfl) rfl, ?_⟩ | refine ⟨_, loadAggK rfl (O.at (.tail _ (.tail _ (.tail _ (.head _))))) rfl rfl (Nat.le_of_ble_eq_true rfl) rfl, ?_⟩ | refine ⟨_, loadAggK rfl (O.at (.tail _ (.tail _ (.tail _ (.tail _ (.head _)))))) rfl rfl (Nat.le_of_ble_eq_true rfl) rfl, ?_⟩ | refine ⟨_, loadAggK rfl (O.at (.tail _ (.tail _ (.tail _ (.tail _ (.tail _ (.head _))))))) rfl rfl (Nat.le_of_ble_eq_true rfl) rfl, ?_⟩ | refine ⟨_, loadAggK rfl (O.at (.tail _ (.tail _ (.tail _ (.tail _ (.tail _ (.tail _ (.head _)))))))) rfl rfl (Nat.le_of_ble_eq_true rfl) rfl, ?_⟩ | refine idxR rfl ?_ | refine sliceR rfl ?_ | refine ⟨_, addK (b := 1) rfl rfl (by omega), ?_⟩ | refine ⟨_, addK rfl rfl (by omega), ?_⟩ | refine ⟨_, convIntK rfl rfl rfl (u8_wide _ (by omega)), ?_⟩ | refine ⟨_, remK rfl rfl (by omega), ?_⟩ | refine ⟨_, remK (b := 2) rfl rfl (by decide), ?_⟩ | refine ⟨_, remK (b := 3) rfl rfl (by decide), ?_⟩ | refine ⟨_, remK (b := 4) rfl rfl (by decide), ?_⟩ | refine ⟨_, remK (b := 9) rfl rfl (by decide), ?_⟩ | refine ⟨_, remK (b := 10) rfl rfl (by decide), ?_⟩ | refine ⟨_, remK (b := 13) rfl rfl (by decide), ?_⟩ | refine ⟨.inl rfl, ?_⟩ | refine ⟨.inr (.inr rfl), ?_⟩ | refine ⟨.inr (.inr (loadK rfl (O.at (.head _)) rfl rfl)), ?_⟩ | refine ⟨.inr (.inr (loadK rfl (O.at (.tail _ (.head _))) rfl rfl)), ?_⟩ | refine ⟨.inr (.inr (loadK rfl (O.at (.tail _ (.tail _ (.head _)))) rfl rfl)), ?_⟩ | refine ⟨.inr (.inr (loadK rfl (O.at (.tail _ (.tail _ (.tail _ (.head _))))) rfl rfl)), ?_⟩ | refine ⟨.inr (.inr (loadK rfl (O.at (.tail _ (.tail _ (.tail _ (.tail _ (.head _)))))) rfl rfl)), ?_⟩ | refine ⟨.inr (.inr (loadK rfl (O.at (.tail _ (.tail _ (.tail _ (.tail _ (.tail _ (.head _))))))) rfl rfl)), ?_⟩ | refine ⟨.inr (.inr (loadK rfl (O.at (.tail _ (.tail _ (.tail _ (.tail _ (.tail _ (.tail _ (.head _)))))))) rfl rfl)), ?_⟩ | refine ⟨.inl (Ext.refl _), ?_⟩ | refine ⟨.inr (by kernel_rfl), ?_⟩ | refine ⟨.inl (by kernel_rfl), ?_⟩ | refine O.store (.head _) rfl rfl rfl rfl (Nat.le_of_ble_eq_true rfl) rfl rfl fun h O => ?_ | refine O.store (.tail _ (.head _)) rfl rfl rfl rfl (Nat.le_of_ble_eq_true rfl) rfl rfl fun h O => ?_ | refine O.store (.tail _ (.tail _ (.head _))) rfl rfl rfl rfl (Nat.le_of_ble_eq_true rfl) rfl rfl fun h O => ?_ | refine O.store (.tail _ (.tail _ (.tail _ (.head _)))) rfl rfl rfl rfl (Nat.le_of_ble_eq_true rfl) rfl rfl fun h O => ?_ | refine O.store (.tail _ (.tail _ (.tail _ (.tail _ (.head _))))) rfl rfl rfl rfl (Nat.le_of_ble_eq_true rfl) rfl rfl fun h O => ?_ | refine O.store (.tail _ (.tail _ (.tail _ (.tail _ (.tail _ (.head _)))))) rfl rfl rfl rfl (Nat.le_of_ble_eq_true rfl) rfl rfl fun h O => ?_ | refine O.store (.tail _ (.tail _ (.tail _ (.tail _ (.tail _ (.tail _ (.head _))))))) rfl rfl rfl rfl (Nat.le_of_ble_eq_true rfl) rfl rfl fun h O => ?_); ((conv => whnf); repeat ((first | refine CodeS.step ?_ | refine RegS.step ?_ | refine RegXS.step ?_); (conv => whnf))))
        rw [hgl]
        refine ⟨_, rfl, (fun hx => nomatch (hx.symm.trans ((show (Int.ofNat M != Int.ofNat M) = false by simp)))), fun _ => ?_⟩; ((conv => whnf); repeat ((first | refine CodeS.step ?_ | refine RegS.step ?_ | refine RegXS.step ?_); (conv => whnf)))
        refine indexK (s := 1) rfl rfl rfl rfl (hca M (by omega)) ?_; ((conv => whnf); repeat ((first | refine CodeS.step ?_ | refine RegS.step ?_ | refine RegXS.step ?_); (conv => whnf)))
        (first | refine ⟨_, loadK rfl (O.at (.head _)) rfl (hcg M (by omega)), ?_⟩ | refine ⟨_, loadK rfl (O.at (.tail _ (.head _))) rfl (hcg M (by omega)), ?_⟩ | refine ⟨_, loadK rfl (O.at (.tail _ (.tail _ (.head _)))) rfl (hcg M (by omega)), ?_⟩ | refine ⟨_, loadK rfl (O.at (.tail _ (.tail _ (.tail _ (.head _))))) rfl (hcg M (by omega)), ?_⟩ | refine ⟨_, loadK rfl (O.at (.tail _ (.tail _ (.tail _ (.tail _ (.head _)))))) rfl (hcg M (by omega)), ?_⟩ | refine ⟨_, loadK rfl (O.at (.tail _ (.tail _ (.tail _ (.tail _ (.tail _ (.head _))))))) rfl (hcg M (by omega)), ?_⟩ | refine ⟨_, loadK rfl (O.at (.tail _ (.tail _ (.tail _ (.tail _ (.tail _ (.tail _ (.head _)))))))) rfl (hcg M (by omega)), ?_⟩); ((conv => whnf); repeat ((first | refine CodeS.step ?_ | refine RegS.step ?_ | refine RegXS.step ?_); (conv => whnf)))
        refine ⟨_, rfl, (fun hx => nomatch (hx.symm.trans ((show (c.getD M 0 != c.getD M 0) = false by simp)))), fun _ => ?_⟩; ((conv => whnf); repeat ((first | refine CodeS.step ?_ | refine RegS.step ?_ | refine RegXS.step ?_); (conv => whnf)))
        refine countG hM (by kernel_rfl) (nn := 195) M (fun i (_ : Unit) h' => Own vars h0 [(some gc, .cells (vals c) false)] h')
          (fun i _ => [(8, .int .i64 (Int.ofNat M)), (13, growV 1 (some gc) (vals c)), (21, FL 1 (vals (c.take M))), (23, .int .i64 (Int.ofNat i))])
          rfl () O.second ⟨rfl, rfl, rfl, rfl, trivial⟩ ?_ ?_
        · rintro i _ base h3 hi O
          ((conv => whnf); repeat ((first | refine CodeS.step ?_ | refine RegS.step ?_ | refine RegXS.step ?_); (conv => whnf)))
          refine ⟨_, rfl, fun _ => ?_, (fun hx => nomatch (hx.symm.trans (lt_nat hi)))⟩; ((conv => whnf); repeat ((first | refine CodeS.step ?_ | refine RegS.step ?_ | refine RegXS.step ?_); (conv => whnf)))
          refine flAtK rfl rfl rfl rfl (hgg i hi) ?_; ((conv => whnf); repeat ((first | refine CodeS.step ?_ | refine RegS.step ?_ | refine RegXS.step ?_); (conv => whnf)))
          (first | refine ⟨_, (rfl : aread _ _ _ _ = some _), ?_⟩ | refine ⟨_, loadK rfl (O.at (.head _)) rfl rfl, ?_⟩ | refine ⟨_, loadK rfl (O.at (.tail _ (.head _))) rfl rfl, ?_⟩ | refine ⟨_, loadK rfl (O.at (.tail _ (.tail _ (.head _)))) rfl rfl, ?_⟩ | refine ⟨_, loadK rfl (O.at (.tail _ (.tail _ (.tail _ (.head _))))) rfl rfl, ?_⟩ | refine ⟨_, loadK rfl (O.at (.tail _ (.tail _ (.tail _ (.tail _ (.head _)))))) rfl rfl, ?_⟩ | refine ⟨_, loadK rfl (O.at (.tail _ (.tail _ (.tail _ (.tail _ (.tail _ (.head _))))))) rfl rfl, ?_⟩ | refine ⟨_, loadK rfl (O.at (.tail _ (.tail _ (.tail _ (.tail _ (.tail _ (.tail _ (.head _)))))))) rfl rfl, ?_⟩ | refine ⟨_, loadAggK rfl (O.at (.head _)) rfl rfl (Nat.le_of_ble_eq_true rfl) rfl, ?_⟩ | refine ⟨_, loadAggK rfl (O.at (.tail _ (.head _))) rfl rfl (Nat.le_of_ble_eq_true rfl) rfl, ?_⟩ | refine ⟨_, loadAggK rfl (O.at (.tail _ (.tail _ (.head _)))) rfl rfl (Nat.le_of_ble_eq_true rfl) rfl, ?_⟩ | refine ⟨_, loadAggK rfl (O.at (.tail _ (.tail _ (.tail _ (.head _))))) rfl rfl (Nat.le_of_ble_eq_true rfl) rfl, ?_⟩ | refine ⟨_, loadAggK rfl (O.at (.tail _ (.tail _ (.tail _ (.tail _ (.head _)))))) rfl rfl (Nat.le_of_ble_eq_true rfl) rfl, ?_⟩ | refine ⟨_, loadAggK rfl (O.at (.tail _ (.tail _ (.tail _ (.tail _ (.tail _ (.head _))))))) rfl rfl (Nat.le_of_ble_eq_true rfl) rfl, ?_⟩ | refine ⟨_, loadAggK rfl (O.at (.tail _ (.tail _ (.tail _ (.tail _ (.tail _ (.tail _ (.head _)))))))) rfl rfl (Nat.le_of_ble_eq_true rfl) rfl, ?_⟩); ((conv => whnf); repeat ((first | refine CodeS.step ?_ | refine RegS.step ?_ | refine RegXS.step ?_); (conv => whnf)))
          (first | refine ⟨.inl rfl, ?_⟩ | refine ⟨.inr (.inr rfl), ?_⟩ | refine ⟨.inr (.inr (loadK rfl (O.at (.head _)) rfl rfl)), ?_⟩ | refine ⟨.inr (.inr (loadK rfl (O.at (.tail _ (.head _))) rfl rfl)), ?_⟩ | refine ⟨.inr (.inr (loadK rfl (O.at (.tail _ (.tail _ (.head _)))) rfl rfl)), ?_⟩ | refine ⟨.inr (.inr (loadK rfl (O.at (.tail _ (.tail _ (.tail _ (.head _))))) rfl rfl)), ?_⟩ | refine ⟨.inr (.inr (loadK rfl (O.at (.tail _ (.tail _ (.tail _ (.tail _ (.head _)))))) rfl rfl)), ?_⟩ | refine ⟨.inr (.inr (loadK rfl (O.at (.tail _ (.tail _ (.tail _ (.tail _ (.tail _ (.head _))))))) rfl rfl)), ?_⟩ | refine ⟨.inr (.inr (loadK rfl (O.at (.tail _ (.tail _ (.tail _ (.tail _ (.tail _ (.tail _ (.head _)))))))) rfl rfl)), ?_⟩ | refine ⟨.inl (Ext.refl _), ?_⟩ | refine ⟨.inr (by kernel_rfl), ?_⟩ | refine ⟨.inl (by kernel_rfl), ?_⟩); ((conv => whnf); repeat ((first | refine CodeS.step ?_ | refine RegS.step ?_ | refine RegXS.step ?_); (conv => whnf)))
          refine indexK (s := 1) rfl rfl rfl rfl (hca i (by omega)) ?_; ((conv => whnf); repeat ((first | refine CodeS.step ?_ | refine RegS.step ?_ | refine RegXS.step ?_); (conv => whnf)))
          (first | refine ⟨_, loadK rfl (O.at (.head _)) rfl (hcg i (by omega)), ?_⟩ | refine ⟨_, loadK rfl (O.at (.tail _ (.head _))) rfl (hcg i (by omega)), ?_⟩ | refine ⟨_, loadK rfl (O.at (.tail _ (.tail _ (.head _)))) rfl (hcg i (by omega)), ?_⟩ | refine ⟨_, loadK rfl (O.at (.tail _ (.tail _ (.tail _ (.head _))))) rfl (hcg i (by omega)), ?_⟩ | refine ⟨_, loadK rfl (O.at (.tail _ (.tail _ (.tail _ (.tail _ (.head _)))))) rfl (hcg i (by omega)), ?_⟩ | refine ⟨_, loadK rfl (O.at (.tail _ (.tail _ (.tail _ (.tail _ (.tail _ (.head _))))))) rfl (hcg i (by omega)), ?_⟩ | refine ⟨_, loadK rfl (O.at (.tail _ (.tail _ (.tail _ (.tail _ (.tail _ (.tail _ (.head _)))))))) rfl (hcg i (by omega)), ?_⟩); ((conv => whnf); repeat ((first | refine CodeS.step ?_ | refine RegS.step ?_ | refine RegXS.step ?_); (conv => whnf)))
          (first | refine ⟨.inl rfl, ?_⟩ | refine ⟨.inr (.inr rfl), ?_⟩ | refine ⟨.inr (.inr (loadK rfl (O.at (.head _)) rfl rfl)), ?_⟩ | refine ⟨.inr (.inr (loadK rfl (O.at (.tail _ (.head _))) rfl rfl)), ?_⟩ | refine ⟨.inr (.inr (loadK rfl (O.at (.tail _ (.tail _ (.head _)))) rfl rfl)), ?_⟩ | refine ⟨.inr (.inr (loadK rfl (O.at (.tail _ (.tail _ (.tail _ (.head _))))) rfl rfl)), ?_⟩ | refine ⟨.inr (.inr (loadK rfl (O.at (.tail _ (.tail _ (.tail _ (.tail _ (.head _)))))) rfl rfl)), ?_⟩ | refine ⟨.inr (.inr (loadK rfl (O.at (.tail _ (.tail _ (.tail _ (.tail _ (.tail _ (.head _))))))) rfl rfl)), ?_⟩ | refine ⟨.inr (.inr (loadK rfl (O.at (.tail _ (.tail _ (.tail _ (.tail _ (.tail _ (.tail _ (.head _)))))))) rfl rfl)), ?_⟩ | refine ⟨.inl (Ext.refl _), ?_⟩ | refine ⟨.inr (by kernel_rfl), ?_⟩ | refine ⟨.inl (by kernel_rfl), ?_⟩); ((conv => whnf); repeat ((first | refine CodeS.step ?_ | refine RegS.step ?_ | refine RegXS.step ?_); (conv => whnf)))
          refine ⟨_, rfl, (fun hx => nomatch (hx.symm.trans ((show (c.getD i 0 != c.getD i 0) = false by simp)))), fun _ => ?_⟩; ((conv => whnf); repeat ((first | refine CodeS.step ?_ | refine RegS.step ?_ | refine RegXS.step ?_); (conv => whnf)))
          refine ⟨_, addK (b := 1) rfl rfl (by omega), ?_⟩; ((conv => whnf); repeat ((first | refine CodeS.step ?_ | refine RegS.step ?_ | refine RegXS.step ?_); (conv => whnf)))
          exact ⟨(), O, rfl, rfl, rfl, rfl, trivial⟩
        · rintro _ base h3 O
          ((conv => whnf); repeat ((first | refine CodeS.step ?_ | refine RegS.step ?_ | refine RegXS.step ?_); (conv => whnf)))
          refine ⟨_, rfl, (fun hx => nomatch (hx.symm.trans (lt_end M))), fun _ => ?_⟩; ((conv => whnf); repeat ((first | refine CodeS.step ?_ | refine RegS.step ?_ | refine RegXS.step ?_); (conv => whnf)))
          refine FnV.go (lives_fn) O ?_; ((conv => whnf); repeat ((first | refine CodeS.step ?_ | refine RegS.step ?_ | refine RegXS.step ?_); (conv => whnf)))
          exact O.ret
end Go.Proofs.YtedefohdeignpaaDoor
