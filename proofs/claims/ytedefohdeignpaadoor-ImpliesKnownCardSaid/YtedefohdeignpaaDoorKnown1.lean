/-
  ImpliesKnown: gates and values derived from a counter.
-/
import Derived.Test.YtedefohdeignpaaDoorGate9
namespace Go.Proofs.YtedefohdeignpaaDoor
open Go.Abs
set_option maxRecDepth 100000

section
variable {P : Program} {ρ : Operand → Value} {d : Option Tmp} {ty : TypeId} {pos : String} {af : Array Edge} {gd : Option (Nat × Bool)}

theorem mulK {t yt : TypeId} {x y : Operand} {a b : Nat} (hx : ρ x = .int .i64 (Int.ofNat a)) (hy : ρ y = .int .i64 (Int.ofNat b)) (hb : a * b < 2 ^ 63) :
    apure P ρ { dst := d, op := .binOp .mul t x y yt, type := ty, pos := pos, after := af, guard := gd } = some (.int .i64 (Int.ofNat (a * b))) := by
  refine intK hx hy ?_
  simp only [intBin, Option.some.injEq, Value.int.injEq, true_and]
  have : Int.ofNat a * Int.ofNat b = Int.ofNat (a * b) := rfl
  rw [this, IntWalk.i64_in _ (by simp only [Int.ofNat_eq_natCast]; omega)]

theorem quoK {t yt : TypeId} {x y : Operand} {a b : Nat} (hx : ρ x = .int .i64 (Int.ofNat a)) (hy : ρ y = .int .i64 (Int.ofNat b)) (hb : 0 < b) (ha : a < 2 ^ 63) :
    apure P ρ { dst := d, op := .binOp .quo t x y yt, type := ty, pos := pos, after := af, guard := gd } = some (.int .i64 (Int.ofNat (a / b))) := by
  have hp : (Op.binOp .quo t x y yt).operands.all (fun x => plain (ρ x)) = true := by simp [Op.operands, hx, hy, plain, plain0]
  have hpl : plain (.int .i64 (Int.ofNat (a / b))) = true := rfl
  have hle : a / b ≤ a := Nat.div_le_self a b
  have hw : IntKind.i64.wrap (Int.ofNat (a / b)) = Int.ofNat (a / b) := IntWalk.i64_in _ (by simp only [Int.ofNat_eq_natCast]; generalize a / b = q at hle; omega)
  have hd : Int.tdiv (Int.ofNat a) (Int.ofNat b) = Int.ofNat (a / b) := rfl
  have this : pureOf P (execOp ρ { dst := d, op := .binOp .quo t x y yt, type := ty, pos := pos, after := af, guard := gd }) = some (.value (.int .i64 (Int.ofNat (a / b)))) := by
    have hne : ¬ Int.ofNat b = 0 := by simp only [Int.ofNat_eq_natCast]; omega
    simp only [execOp, pureOf_bind, hx, hy, binOp, eqGuard, ne_eq, not_true_eq_false, if_false, Op.intDiv, hne, hd, hw]
    rfl
  have that : fallback P ρ { dst := d, op := .binOp .quo t x y yt, type := ty, pos := pos, after := af, guard := gd } = some (.int .i64 (Int.ofNat (a / b))) := by
    unfold fallback
    rw [if_pos hp, this]
    simp only [hpl, if_true]
  unfold apure
  simp only [hx, hy, quick, intBin, if_pos]
  exact that

theorem convWrapK {h : Heap} {s t : TypeId} {x : Operand} {k k' : IntKind} {a b : Int} (hs : P.underlying s = some (.int k)) (ht : P.underlying t = some (.int k')) (hx : ρ x = .int k a) (hw : k'.wrap a = b) :
    aread P ρ { dst := d, op := .convert s t x, type := ty, pos := pos, after := af, guard := gd } h = some (.int k' b) := by
  unfold aread
  simp only [hs, ht]
  unfold fallback
  have h1 : (Op.convert s t x).operands.all (fun x => plain (ρ x)) = true := by
    simp [Op.operands, hx, plain, plain0]
  rw [if_pos h1]
  have e1 : ∀ u du, P.underlying u = some du → pureOf P (underlying u) = some du := by
    intro u du hu
    simp only [underlying, pureOf_bind]
    show Option.bind (some P) _ = _
    simp only [Option.bind_some, hu]
    rfl
  have h2 : pureOf P (execOp ρ { dst := d, op := .convert s t x, type := ty, pos := pos, after := af, guard := gd }) = some (.value (.int k' b)) := by
    simp only [execOp, convert, pureOf_bind, e1 _ _ hs, e1 _ _ ht, Option.bind_some, hx, Conv.intToInt, hw]
    rfl
  rw [h2]
  rfl
end

theorem wrap8 (n : Nat) : IntKind.u8.wrap (Int.ofNat n) = Int.ofNat (n % 256) := by
  rfl

def kNext (k i : Nat) : Nat := (k * 31 + 7 * i + 11) % 100003

theorem pairs_two (l : List (Nat × Nat)) : ∀ e ∈ l.map (fun p => Value.agg ⟨[u8 (Int.ofNat p.1), u8 (Int.ofNat p.2)]⟩), (cl e).length = 2 := by
  intro e m
  obtain ⟨a, _, rfl⟩ := List.mem_map.1 m
  rfl

theorem wired0_fn : FnV Tryd.prog NG vars 19 #[.int .i64 0] (.bool true) := by
  obtain ⟨h', e⟩ := isTrue_iff wired0
  have c := (runFn_sound hM hP (fun f vs h v e => orcExt_sound f vs h v e) 60 _ _ _ _ _ e).1
  refine ⟨PureV.flatB rfl, fun h b => c.lift (by simp [plain, plain0]) rfl (bears_vars (hasSize b) (hasVars b))⟩
theorem wired1_fn : FnV Tryd.prog NG vars 19 #[.int .i64 1] (.bool true) := by
  obtain ⟨h', e⟩ := isTrue_iff wired1
  have c := (runFn_sound hM hP (fun f vs h v e => orcExt_sound f vs h v e) 60 _ _ _ _ _ e).1
  refine ⟨PureV.flatB rfl, fun h b => c.lift (by simp [plain, plain0]) rfl (bears_vars (hasSize b) (hasVars b))⟩

theorem hv (l : List Nat) (h : ∀ x ∈ l, x < 256) : ∀ y ∈ l.map Int.ofNat, 0 ≤ y ∧ y < 256 := fun y m => by
  obtain ⟨x, hx, rfl⟩ := List.mem_map.1 m
  have := h x hx
  simp only [Int.ofNat_eq_natCast]; omega

set_option maxHeartbeats 8000000 in
theorem known_fn : FnV Tryd.prog NG vars 5 #[] (.bool true) := by
  refine fnF hM Tryd.func5 rfl (hP _ _ rfl Tryd.func5) (Nat.le_of_ble_eq_true rfl) (by (repeat (first | exact PureV.flatB rfl | exact PureV.ints | assumption | exact PureV.fe | refine PureV.tup ?_ | refine PureV.agg ?_ | refine AllPure.cons ?_ ?_ | exact AllPure.nil | refine PureV.list (fun _ => ?_) | refine PureV.fp ?_ | refine PureV.func ?_ ?_))) fun h0 O => ?_; ((conv => whnf); repeat ((first | refine CodeS.step ?_ | refine RegS.step ?_ | refine RegXS.step ?_); (conv => whnf)))
  refine countG hM (by kernel_rfl) (nn := 64) 22 (fun n (k : Nat) h' => k < 100003 ∧ Own vars h0 [] h')
    (fun n k => [(1, .int .i64 (Int.ofNat k)), (2, .int .i64 (Int.ofNat n))])
    rfl 1 ⟨by decide, O⟩ ⟨rfl, rfl, trivial⟩ ?_ ?_
  · rintro n k base h1 hn ⟨hk, O⟩
    ((conv => whnf); repeat ((first | refine CodeS.step ?_ | refine RegS.step ?_ | refine RegXS.step ?_); (conv => whnf)))
    refine ⟨_, rfl, fun _ => ?_, (fun hx => nomatch (hx.symm.trans ((show ltI (Int.ofNat n) 22 = true from lt_nat hn))))⟩; ((conv => whnf); repeat ((first | refine CodeS.step ?_ | refine RegS.step ?_ | refine RegXS.step ?_); (conv => whnf)))
    refine countG hM (by kernel_rfl) (nn := 64) 6 (fun i (S : (Option Nat × Option Nat) × Nat × List Nat × List (Nat × Nat)) h' => ((S.1.1 = none → S.2.2.1 = []) ∧ (S.1.2 = none → S.2.2.2 = [])) ∧ (S.2.1 < 100003 ∧ S.2.2.1.length = i ∧ S.2.2.2.length = i ∧ ∀ x ∈ S.2.2.1, x < 256) ∧ Own vars h0 [(S.1.1, .cells (flatC (vals (S.2.2.1.map Int.ofNat))) false), (S.1.2, .cells (flatC (S.2.2.2.map fun p => .agg ⟨[u8 (Int.ofNat p.1), u8 (Int.ofNat p.2)]⟩)) false)] h')
      (fun i S => [(1, .int .i64 (Int.ofNat S.2.1)), (2, .int .i64 (Int.ofNat n)), (3, growV 1 S.1.1 (vals (S.2.2.1.map Int.ofNat))), (4, growV 2 S.1.2 (S.2.2.2.map fun p => .agg ⟨[u8 (Int.ofNat p.1), u8 (Int.ofNat p.2)]⟩)), (5, .int .i64 (Int.ofNat i))])
      rfl ((none, none), k, [], []) ⟨⟨fun _ => rfl, fun _ => rfl⟩, ⟨hk, rfl, rfl, by simp⟩, (O.addNil _).addNil _⟩ ⟨rfl, rfl, rfl, rfl, rfl, trivial⟩ ?_ ?_
    · rintro i ⟨⟨a3, a4⟩, k, l3, l4⟩ base h1 hi ⟨⟨ha3, ha4⟩, ⟨hk, hl3, hl4, hb⟩, O⟩
      simp only at ha3 ha4 hk hl3 hl4 hb O
      ((conv => whnf); repeat ((first | refine CodeS.step ?_ | refine RegS.step ?_ | refine RegXS.step ?_); (conv => whnf)))
      refine ⟨_, rfl, fun _ => ?_, (fun hx => nomatch (hx.symm.trans ((show ltI (Int.ofNat i) 6 = true from lt_nat hi))))⟩; ((conv => whnf); repeat ((first | refine CodeS.step ?_ | refine RegS.step ?_ | refine RegXS.step ?_); (conv => whnf)))
      refine ⟨_, convWrapK rfl rfl rfl (wrap8 k), ?_⟩; ((conv => whnf); repeat ((first | refine CodeS.step ?_ | refine RegS.step ?_ | refine RegXS.step ?_); (conv => whnf)))
      refine NewG.frz rfl ?_; ((conv => whnf); repeat ((first | refine CodeS.step ?_ | refine RegS.step ?_ | refine RegXS.step ?_); (conv => whnf)))
      have hv3 : vals (l3.map Int.ofNat) ++ [u8 (Int.ofNat (k % 256))] = vals ((l3 ++ [k % 256]).map Int.ofNat) := by simp [vals]
      (first | refine O.append (s := 1) (b := 1) (m := 1) (new := [u8 (Int.ofNat (k % 256))]) (.head _) (fun e => by rw [ha3 e]; rfl) rfl rfl rfl rfl rfl rfl rfl rfl rfl rfl rfl (by rw [hv3]; exact vals_one _) rfl (by decide) (by rw [vals_len, List.length_map]; omega) (hv3) fun t3 h ha O => ?_ | refine O.append (s := 1) (b := 1) (m := 1) (new := [u8 (Int.ofNat (k % 256))]) (.tail _ (.head _)) (fun e => by rw [ha3 e]; rfl) rfl rfl rfl rfl rfl rfl rfl rfl rfl rfl rfl (by rw [hv3]; exact vals_one _) rfl (by decide) (by rw [vals_len, List.length_map]; omega) (hv3) fun t3 h ha O => ?_ | refine O.append (s := 1) (b := 1) (m := 1) (new := [u8 (Int.ofNat (k % 256))]) (.tail _ (.tail _ (.head _))) (fun e => by rw [ha3 e]; rfl) rfl rfl rfl rfl rfl rfl rfl rfl rfl rfl rfl (by rw [hv3]; exact vals_one _) rfl (by decide) (by rw [vals_len, List.length_map]; omega) (hv3) fun t3 h ha O => ?_ | refine O.append (s := 1) (b := 1) (m := 1) (new := [u8 (Int.ofNat (k % 256))]) (.tail _ (.tail _ (.tail _ (.head _)))) (fun e => by rw [ha3 e]; rfl) rfl rfl rfl rfl rfl rfl rfl rfl rfl rfl rfl (by rw [hv3]; exact vals_one _) rfl (by decide) (by rw [vals_len, List.length_map]; omega) (hv3) fun t3 h ha O => ?_ | refine O.append (s := 1) (b := 1) (m := 1) (new := [u8 (Int.ofNat (k % 256))]) (.tail _ (.tail _ (.tail _ (.tail _ (.head _))))) (fun e => by rw [ha3 e]; rfl) rfl rfl rfl rfl rfl rfl rfl rfl rfl rfl rfl (by rw [hv3]; exact vals_one _) rfl (by decide) (by rw [vals_len, List.length_map]; omega) (hv3) fun t3 h ha O => ?_ | refine O.append (s := 1) (b := 1) (m := 1) (new := [u8 (Int.ofNat (k % 256))]) (.tail _ (.tail _ (.tail _ (.tail _ (.tail _ (.head _)))))) (fun e => by rw [ha3 e]; rfl) rfl rfl rfl rfl rfl rfl rfl rfl rfl rfl rfl (by rw [hv3]; exact vals_one _) rfl (by decide) (by rw [vals_len, List.length_map]; omega) (hv3) fun t3 h ha O => ?_ | refine O.append (s := 1) (b := 1) (m := 1) (new := [u8 (Int.ofNat (k % 256))]) (.tail _ (.tail _ (.tail _ (.tail _ (.tail _ (.tail _ (.head _))))))) (fun e => by rw [ha3 e]; rfl) rfl rfl rfl rfl rfl rfl rfl rfl rfl rfl rfl (by rw [hv3]; exact vals_one _) rfl (by decide) (by rw [vals_len, List.length_map]; omega) (hv3) fun t3 h ha O => ?_); ((conv => whnf); repeat ((first | refine CodeS.step ?_ | refine RegS.step ?_ | refine RegXS.step ?_); (conv => whnf)))
      have ht3 := ha
      refine ⟨_, quoK (a := k) (b := 3) rfl rfl (by decide) (by omega), ?_⟩; ((conv => whnf); repeat ((first | refine CodeS.step ?_ | refine RegS.step ?_ | refine RegXS.step ?_); (conv => whnf)))
      refine ⟨_, convWrapK rfl rfl rfl (wrap8 (k / 3)), ?_⟩; ((conv => whnf); repeat ((first | refine CodeS.step ?_ | refine RegS.step ?_ | refine RegXS.step ?_); (conv => whnf)))
      refine ⟨_, quoK (a := k) (b := 7) rfl rfl (by decide) (by omega), ?_⟩; ((conv => whnf); repeat ((first | refine CodeS.step ?_ | refine RegS.step ?_ | refine RegXS.step ?_); (conv => whnf)))
      refine ⟨_, convWrapK rfl rfl rfl (wrap8 (k / 7)), ?_⟩; ((conv => whnf); repeat ((first | refine CodeS.step ?_ | refine RegS.step ?_ | refine RegXS.step ?_); (conv => whnf)))
      refine NewG.frz rfl ?_; ((conv => whnf); repeat ((first | refine CodeS.step ?_ | refine RegS.step ?_ | refine RegXS.step ?_); (conv => whnf)))
      have hv4 : (l4.map fun p => Value.agg ⟨[u8 (Int.ofNat p.1), u8 (Int.ofNat p.2)]⟩) ++ [.agg ⟨[u8 (Int.ofNat (k / 3 % 256)), u8 (Int.ofNat (k / 7 % 256))]⟩] = (l4 ++ [(k / 3 % 256, k / 7 % 256)]).map fun p => Value.agg ⟨[u8 (Int.ofNat p.1), u8 (Int.ofNat p.2)]⟩ := by simp
      (first | refine O.append (s := 2) (b := 2) (m := 1) (new := [.agg ⟨[u8 (Int.ofNat (k / 3 % 256)), u8 (Int.ofNat (k / 7 % 256))]⟩]) (.head _) (fun e => by rw [ha4 e]; rfl) rfl rfl rfl rfl rfl rfl rfl rfl rfl rfl rfl (by rw [hv4]; exact pairs_two _) rfl (by decide) (by rw [List.length_map]; omega) (hv4) fun t4 h ha O => ?_ | refine O.append (s := 2) (b := 2) (m := 1) (new := [.agg ⟨[u8 (Int.ofNat (k / 3 % 256)), u8 (Int.ofNat (k / 7 % 256))]⟩]) (.tail _ (.head _)) (fun e => by rw [ha4 e]; rfl) rfl rfl rfl rfl rfl rfl rfl rfl rfl rfl rfl (by rw [hv4]; exact pairs_two _) rfl (by decide) (by rw [List.length_map]; omega) (hv4) fun t4 h ha O => ?_ | refine O.append (s := 2) (b := 2) (m := 1) (new := [.agg ⟨[u8 (Int.ofNat (k / 3 % 256)), u8 (Int.ofNat (k / 7 % 256))]⟩]) (.tail _ (.tail _ (.head _))) (fun e => by rw [ha4 e]; rfl) rfl rfl rfl rfl rfl rfl rfl rfl rfl rfl rfl (by rw [hv4]; exact pairs_two _) rfl (by decide) (by rw [List.length_map]; omega) (hv4) fun t4 h ha O => ?_ | refine O.append (s := 2) (b := 2) (m := 1) (new := [.agg ⟨[u8 (Int.ofNat (k / 3 % 256)), u8 (Int.ofNat (k / 7 % 256))]⟩]) (.tail _ (.tail _ (.tail _ (.head _)))) (fun e => by rw [ha4 e]; rfl) rfl rfl rfl rfl rfl rfl rfl rfl rfl rfl rfl (by rw [hv4]; exact pairs_two _) rfl (by decide) (by rw [List.length_map]; omega) (hv4) fun t4 h ha O => ?_ | refine O.append (s := 2) (b := 2) (m := 1) (new := [.agg ⟨[u8 (Int.ofNat (k / 3 % 256)), u8 (Int.ofNat (k / 7 % 256))]⟩]) (.tail _ (.tail _ (.tail _ (.tail _ (.head _))))) (fun e => by rw [ha4 e]; rfl) rfl rfl rfl rfl rfl rfl rfl rfl rfl rfl rfl (by rw [hv4]; exact pairs_two _) rfl (by decide) (by rw [List.length_map]; omega) (hv4) fun t4 h ha O => ?_ | refine O.append (s := 2) (b := 2) (m := 1) (new := [.agg ⟨[u8 (Int.ofNat (k / 3 % 256)), u8 (Int.ofNat (k / 7 % 256))]⟩]) (.tail _ (.tail _ (.tail _ (.tail _ (.tail _ (.head _)))))) (fun e => by rw [ha4 e]; rfl) rfl rfl rfl rfl rfl rfl rfl rfl rfl rfl rfl (by rw [hv4]; exact pairs_two _) rfl (by decide) (by rw [List.length_map]; omega) (hv4) fun t4 h ha O => ?_ | refine O.append (s := 2) (b := 2) (m := 1) (new := [.agg ⟨[u8 (Int.ofNat (k / 3 % 256)), u8 (Int.ofNat (k / 7 % 256))]⟩]) (.tail _ (.tail _ (.tail _ (.tail _ (.tail _ (.tail _ (.head _))))))) (fun e => by rw [ha4 e]; rfl) rfl rfl rfl rfl rfl rfl rfl rfl rfl rfl rfl (by rw [hv4]; exact pairs_two _) rfl (by decide) (by rw [List.length_map]; omega) (hv4) fun t4 h ha O => ?_); ((conv => whnf); repeat ((first | refine CodeS.step ?_ | refine RegS.step ?_ | refine RegXS.step ?_); (conv => whnf)))
      refine ⟨_, mulK (a := k) (b := 31) rfl rfl (by omega), ?_⟩; ((conv => whnf); repeat ((first | refine CodeS.step ?_ | refine RegS.step ?_ | refine RegXS.step ?_); (conv => whnf)))
      refine ⟨_, mulK (a := 7) (b := i) rfl rfl (by omega), ?_⟩; ((conv => whnf); repeat ((first | refine CodeS.step ?_ | refine RegS.step ?_ | refine RegXS.step ?_); (conv => whnf)))
      refine ⟨_, addK (a := k * 31) (b := 7 * i) rfl rfl (by omega), ?_⟩; ((conv => whnf); repeat ((first | refine CodeS.step ?_ | refine RegS.step ?_ | refine RegXS.step ?_); (conv => whnf)))
      refine ⟨_, addK (a := k * 31 + 7 * i) (b := 11) rfl rfl (by omega), ?_⟩; ((conv => whnf); repeat ((first | refine CodeS.step ?_ | refine RegS.step ?_ | refine RegXS.step ?_); (conv => whnf)))
      refine ⟨_, remK (b := 100003) rfl rfl (by decide), ?_⟩; ((conv => whnf); repeat ((first | refine CodeS.step ?_ | refine RegS.step ?_ | refine RegXS.step ?_); (conv => whnf)))
      refine ⟨_, addK (b := 1) rfl rfl (by omega), ?_⟩; ((conv => whnf); repeat ((first | refine CodeS.step ?_ | refine RegS.step ?_ | refine RegXS.step ?_); (conv => whnf)))
      exact ⟨((t3, t4), kNext k i, l3 ++ [k % 256], l4 ++ [(k / 3 % 256, k / 7 % 256)]), ⟨⟨fun e => by have := ht3 e; simp [vals] at this, fun e => by have := ha e; simp at this⟩, ⟨Nat.mod_lt _ (by decide), by simp [hl3], by simp [hl4], fun x hx => by
        rcases List.mem_append.1 hx with hx | hx
        · exact hb x hx
        · simp only [List.mem_singleton] at hx; subst hx; exact Nat.mod_lt _ (by decide)⟩, O⟩, rfl, rfl, rfl, rfl, rfl, trivial⟩
    · rintro ⟨⟨a3, a4⟩, k, l3, l4⟩ base h1 ⟨⟨ha3, ha4⟩, ⟨hk, hl3, hl4, hb⟩, O⟩
      simp only at ha3 ha4 hk hl3 hl4 hb O
      ((conv => whnf); repeat ((first | refine CodeS.step ?_ | refine RegS.step ?_ | refine RegXS.step ?_); (conv => whnf)))
      refine ⟨_, rfl, (fun hx => nomatch (hx.symm.trans ((show ltI (Int.ofNat 6) 6 = false from lt_end 6)))), fun _ => ?_⟩; ((conv => whnf); repeat ((first | refine CodeS.step ?_ | refine RegS.step ?_ | refine RegXS.step ?_); (conv => whnf)))
      refine ⟨_, convWrapK rfl rfl rfl (wrap8 n), ?_⟩; ((conv => whnf); repeat ((first | refine CodeS.step ?_ | refine RegS.step ?_ | refine RegXS.step ?_); (conv => whnf)))
      refine ⟨_, quoK (a := n) (b := 3) rfl rfl (by decide) (by omega), ?_⟩; ((conv => whnf); repeat ((first | refine CodeS.step ?_ | refine RegS.step ?_ | refine RegXS.step ?_); (conv => whnf)))
      refine ⟨_, convWrapK rfl rfl rfl (wrap8 (n / 3)), ?_⟩; ((conv => whnf); repeat ((first | refine CodeS.step ?_ | refine RegS.step ?_ | refine RegXS.step ?_); (conv => whnf)))
      refine FnV.goB (implies_gate (k := n % 256) (n := n / 3 % 256) (Nat.mod_lt _ (by decide)) (hv l3 hb)) O fzVars (flatB_ok rfl) (by kernel_rfl) (fun h2 F => LLe.cons (VLe.refl _ _) (LLe.cons (VLe.refl _ _) (LLe.cons (O.grown F (Nat.zero_le _) (.head _) (fun e => by rw [ha3 e]; rfl) (vals_one _)) (LLe.nil _)))) ?_; ((conv => whnf); repeat ((first | refine CodeS.step ?_ | refine RegS.step ?_ | refine RegXS.step ?_); (conv => whnf)))
      refine ⟨false, rfl, (fun hc => nomatch hc), fun _ => ?_⟩; ((conv => whnf); repeat ((first | refine CodeS.step ?_ | refine RegS.step ?_ | refine RegXS.step ?_); (conv => whnf)))
      refine ⟨_, convWrapK rfl rfl rfl (wrap8 n), ?_⟩; ((conv => whnf); repeat ((first | refine CodeS.step ?_ | refine RegS.step ?_ | refine RegXS.step ?_); (conv => whnf)))
      refine ⟨_, quoK (a := n) (b := 5) rfl rfl (by decide) (by omega), ?_⟩; ((conv => whnf); repeat ((first | refine CodeS.step ?_ | refine RegS.step ?_ | refine RegXS.step ?_); (conv => whnf)))
      refine ⟨_, convWrapK rfl rfl rfl (wrap8 (n / 5)), ?_⟩; ((conv => whnf); repeat ((first | refine CodeS.step ?_ | refine RegS.step ?_ | refine RegXS.step ?_); (conv => whnf)))
      refine ⟨_, remK (b := 2) rfl rfl (by decide), ?_⟩; ((conv => whnf); repeat ((first | refine CodeS.step ?_ | refine RegS.step ?_ | refine RegXS.step ?_); (conv => whnf)))
      refine ⟨_, convWrapK rfl rfl rfl (wrap8 (n % 2)), ?_⟩; ((conv => whnf); repeat ((first | refine CodeS.step ?_ | refine RegS.step ?_ | refine RegXS.step ?_); (conv => whnf)))
      refine NewG.frz rfl ?_; ((conv => whnf); repeat ((first | refine CodeS.step ?_ | refine RegS.step ?_ | refine RegXS.step ?_); (conv => whnf)))
      refine FnV.go (implies_gate (k := n % 256) (n := n / 5 % 256) (vs := [2, 2, 2, 2, 2, Int.ofNat (n % 2 % 256)]) (Nat.mod_lt _ (by decide)) (by
        intro y hy
        simp only [List.mem_cons, List.not_mem_nil, or_false] at hy
        have := Nat.mod_lt (n % 2) (show 0 < 256 by decide)
        simp only [Int.ofNat_eq_natCast] at hy
        omega)) O ?_; ((conv => whnf); repeat ((first | refine CodeS.step ?_ | refine RegS.step ?_ | refine RegXS.step ?_); (conv => whnf)))
      refine ⟨false, rfl, (fun hc => nomatch hc), fun _ => ?_⟩; ((conv => whnf); repeat ((first | refine CodeS.step ?_ | refine RegS.step ?_ | refine RegXS.step ?_); (conv => whnf)))
      refine ⟨_, addK (b := 1) rfl rfl (by omega), ?_⟩; ((conv => whnf); repeat ((first | refine CodeS.step ?_ | refine RegS.step ?_ | refine RegXS.step ?_); (conv => whnf)))
      exact ⟨k, ⟨hk, O.tail.tail⟩, rfl, rfl, trivial⟩
  · rintro k base h1 ⟨hk, O⟩
    ((conv => whnf); repeat ((first | refine CodeS.step ?_ | refine RegS.step ?_ | refine RegXS.step ?_); (conv => whnf)))
    refine ⟨_, rfl, (fun hx => nomatch (hx.symm.trans ((show ltI (Int.ofNat 22) 22 = false from lt_end 22)))), fun _ => ?_⟩; ((conv => whnf); repeat ((first | refine CodeS.step ?_ | refine RegS.step ?_ | refine RegXS.step ?_); (conv => whnf)))
    refine FnV.go (wired0_fn) O ?_; ((conv => whnf); repeat ((first | refine CodeS.step ?_ | refine RegS.step ?_ | refine RegXS.step ?_); (conv => whnf)))
    refine ⟨true, rfl, fun _ => ?_, (fun hc => nomatch hc)⟩; ((conv => whnf); repeat ((first | refine CodeS.step ?_ | refine RegS.step ?_ | refine RegXS.step ?_); (conv => whnf)))
    refine FnV.go (wired1_fn) O ?_; ((conv => whnf); repeat ((first | refine CodeS.step ?_ | refine RegS.step ?_ | refine RegXS.step ?_); (conv => whnf)))
    refine ⟨true, rfl, fun _ => ?_, (fun hc => nomatch hc)⟩; ((conv => whnf); repeat ((first | refine CodeS.step ?_ | refine RegS.step ?_ | refine RegXS.step ?_); (conv => whnf)))
    refine FnV.go (lives_fn) O ?_; ((conv => whnf); repeat ((first | refine CodeS.step ?_ | refine RegS.step ?_ | refine RegXS.step ?_); (conv => whnf)))
    exact O.ret
end Go.Proofs.YtedefohdeignpaaDoor
