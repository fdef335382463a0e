/-
  More of what operations yield: slices of structs made and written, remainders.
-/
import Derived.Test.YtedefohdeignpaaDoorAbsYf
import Derived.Laws.Strings
namespace Go.Abs

variable {P : Program} {ρ : Operand → Value} {d : Option Tmp} {ty : TypeId} {pos : String} {af : Array Edge} {gd : Option (Nat × Bool)} {h : Heap}

theorem zrow_flat {z : Value} {s : Nat} (hs : z.cells.size = s) (hpos : 0 < s) (n : Nat) : (zrow z.cells (n * s)).toList = flatC (List.replicate n z) := by
  have hz : ∀ x ∈ List.replicate n z, (cl x).length = s := fun x hx => by
    rw [(List.mem_replicate.1 hx).2]; simpa [cl] using hs
  apply List.ext_getElem?
  intro i
  rw [flatC, flatMap_get hpos _ hz i]
  by_cases hi : i < n * s
  · have h1 : i / s < n := by rw [Nat.div_lt_iff_lt_mul hpos]; exact hi
    have h2 : i % s < z.cells.size := by rw [hs]; exact Nat.mod_lt _ hpos
    rw [List.getElem?_replicate, if_pos h1, Option.bind_some]
    simp only [zrow, Array.toList_map, List.getElem?_map, Array.toList_range, List.getElem?_range hi, Option.map_some, cl, hs]
    rw [getElem!_pos z.cells (i % s) h2, Array.getElem?_toList, Array.getElem?_eq_getElem h2]
  · have h1 : ¬ i / s < n := by rw [Nat.div_lt_iff_lt_mul hpos]; exact hi
    rw [List.getElem?_replicate, if_neg h1, Option.bind_none, List.getElem?_eq_none]
    rw [Array.length_toList, zrow_size]; omega

theorem makeFlatK {t e : TypeId} {x y : Operand} {n b s : Nat} {z : Value} (hu : P.underlying t = some (.slice e)) (hs : szOf P e = some s) (hb : byOf P e = some b) (hz : zeroOf P e = some z) (hz1 : z.cells.size = s) (hpos : 0 < s) (hp : z.cells.all plain0 = true)
    (hx : ρ x = .int .i64 (Int.ofNat n)) (hy : ρ y = .int .i64 (Int.ofNat n)) (hn : b * n ≤ 2 ^ 48) (hn2 : n < 2 ^ 63) :
    anew P ρ { dst := d, op := .makeSlice t x y, type := ty, pos := pos, after := af, guard := gd } = some (.cells (flatC (List.replicate n z)) false, fun g => .slice (some ⟨g, 0, none⟩) n n) := by
  unfold anew
  simp only [hu, hx, hy, hs, hb, hz]
  have c : 0 ≤ Int.ofNat n ∧ Int.ofNat n ≤ Int.ofNat n ∧ (b : Int) * Int.ofNat n ≤ 2 ^ 48 ∧ Int.ofNat n < 2 ^ 63 ∧ z.cells.all plain0 = true := by
    refine ⟨Int.natCast_nonneg n, Int.le_refl _, ?_, ?_, hp⟩
    · have : ((b * n : Nat) : Int) ≤ ((2 ^ 48 : Nat) : Int) := Int.ofNat_le.2 hn
      simpa using this
    · have : ((n : Nat) : Int) < ((2 ^ 63 : Nat) : Int) := Int.ofNat_lt.2 hn2
      simpa using this
  rw [if_pos c]
  have : (Int.ofNat n).toNat = n := rfl
  rw [this, zrow_flat hz1 hpos]

theorem splice_flat {s : Nat} {l : List Value} {x : Value} {j : Nat} (hl : ∀ e ∈ l, (cl e).length = s) (hx : (cl x).length = s) (hj : j < l.length) : splice (flatC l) (j * s) (cl x) = flatC (l.set j x) := by
  have h1 : (flatC (l.take j)).length = j * s := by
    rw [flatC_length (fun e m => hl e (List.mem_of_mem_take m)), List.length_take, Nat.min_eq_left (Nat.le_of_lt hj)]
  have h2 : flatC l = flatC (l.take j) ++ (cl l[j] ++ flatC (l.drop (j + 1))) := by
    have e : l = l.take j ++ (l[j] :: l.drop (j + 1)) := by rw [List.getElem_cons_drop hj, List.take_append_drop]
    have e' : flatC l = flatC (l.take j ++ (l[j] :: l.drop (j + 1))) := congrArg flatC e
    rw [e', flatC_append]
    rfl
  have h3 : (cl l[j]).length = s := hl _ (List.getElem_mem hj)
  unfold splice
  rw [List.set_eq_take_append_cons_drop, if_pos hj, h2, hx]
  have e1 : (flatC (l.take j) ++ (cl l[j] ++ flatC (l.drop (j + 1)))).take (j * s) = flatC (l.take j) := by
    rw [← h1, List.take_left']
    rfl
  have e2 : (flatC (l.take j) ++ (cl l[j] ++ flatC (l.drop (j + 1)))).drop (j * s + s) = flatC (l.drop (j + 1)) := by
    rw [← List.append_assoc]
    exact List.drop_left' (by rw [List.length_append, h1, h3])
  rw [e1, e2]
  simp [flatC]

theorem remK {t yt : TypeId} {x y : Operand} {k : IntKind} {a b : Nat} (hx : ρ x = .int k (Int.ofNat a)) (hy : ρ y = .int k (Int.ofNat b)) (hb : 0 < b) :
    apure P ρ { dst := d, op := .binOp .rem t x y yt, type := ty, pos := pos, after := af, guard := gd } = some (.int k (Int.ofNat (a % b))) := by
  have hp : (Op.binOp .rem t x y yt).operands.all (fun x => plain (ρ x)) = true := by simp [Op.operands, hx, hy, plain, plain0]
  have hpl : plain (.int k (Int.ofNat (a % b))) = true := rfl
  have this : pureOf P (execOp ρ { dst := d, op := .binOp .rem t x y yt, type := ty, pos := pos, after := af, guard := gd }) = some (.value (.int k (Int.ofNat (a % b)))) := by
    have hne : ¬ Int.ofNat b = 0 := by simp only [Int.ofNat_eq_natCast]; omega
    simp only [execOp, pureOf_bind, hx, hy, binOp, eqGuard, ne_eq, not_true_eq_false, if_false, Op.intDiv, hne]
    rfl
  have that : fallback P ρ { dst := d, op := .binOp .rem t x y yt, type := ty, pos := pos, after := af, guard := gd } = some (.int k (Int.ofNat (a % b))) := by
    unfold fallback
    rw [if_pos hp, this]
    simp only [hpl, if_true]
  unfold apure
  simp only [hx, hy, quick, intBin, if_pos]
  exact that

/-! ### strings -/

theorem strEqK {t yt : TypeId} {x y : Operand} {a b : ByteArray} (ht : P.underlying t = some .string) (hx : ρ x = .string a) (hy : ρ y = .string b) :
    apure P ρ { dst := d, op := .binOp .eql t x y yt, type := ty, pos := pos, after := af, guard := gd } = some (.bool (a.data.toList == b.data.toList)) := by
  have hp : (Op.binOp .eql t x y yt).operands.all (fun x => plain (ρ x)) = true := by simp [Op.operands, hx, hy, plain, plain0]
  have this : pureOf P (execOp ρ { dst := d, op := .binOp .eql t x y yt, type := ty, pos := pos, after := af, guard := gd }) = some (.value (.bool (a.data.toList == b.data.toList))) := by
    simp only [execOp, pureOf_bind, hx, hy, eqGuard, binOp_string_eql, ByteArray.toList_eq]
    rfl
  have that : fallback P ρ { dst := d, op := .binOp .eql t x y yt, type := ty, pos := pos, after := af, guard := gd } = some (.bool (a.data.toList == b.data.toList)) := by
    unfold fallback
    rw [if_pos hp, this]
    rfl
  unfold apure
  simp only [hx, hy, quick, ht, nilEq, eqAgg]
  exact that

theorem strNeK {t yt : TypeId} {x y : Operand} {a b : ByteArray} (ht : P.underlying t = some .string) (hx : ρ x = .string a) (hy : ρ y = .string b) :
    apure P ρ { dst := d, op := .binOp .neq t x y yt, type := ty, pos := pos, after := af, guard := gd } = some (.bool !(a.data.toList == b.data.toList)) := by
  have hp : (Op.binOp .neq t x y yt).operands.all (fun x => plain (ρ x)) = true := by simp [Op.operands, hx, hy, plain, plain0]
  have this : pureOf P (execOp ρ { dst := d, op := .binOp .neq t x y yt, type := ty, pos := pos, after := af, guard := gd }) = some (.value (.bool !(a.data.toList == b.data.toList))) := by
    simp only [execOp, pureOf_bind, hx, hy, eqGuard, binOp_string_neq, ByteArray.toList_eq]
    rfl
  have that : fallback P ρ { dst := d, op := .binOp .neq t x y yt, type := ty, pos := pos, after := af, guard := gd } = some (.bool !(a.data.toList == b.data.toList)) := by
    unfold fallback
    rw [if_pos hp, this]
    rfl
  unfold apure
  simp only [hx, hy, quick, ht, nilEq, eqAgg]
  exact that

theorem strAddK {t yt : TypeId} {x y : Operand} {a b : ByteArray} (hx : ρ x = .string a) (hy : ρ y = .string b) (hs : a.size + b.size ≤ 9223372036854775807) :
    apure P ρ { dst := d, op := .binOp .add t x y yt, type := ty, pos := pos, after := af, guard := gd } = some (.string ⟨(a.data.toList ++ b.data.toList).toArray⟩) := by
  have hp : (Op.binOp .add t x y yt).operands.all (fun x => plain (ρ x)) = true := by simp [Op.operands, hx, hy, plain, plain0]
  have hab : a ++ b = ⟨(a.data.toList ++ b.data.toList).toArray⟩ := by
    apply ByteArray.ext
    rw [ByteArray.data_append]
    simp
  have this : pureOf P (execOp ρ { dst := d, op := .binOp .add t x y yt, type := ty, pos := pos, after := af, guard := gd }) = some (.value (.string ⟨(a.data.toList ++ b.data.toList).toArray⟩)) := by
    have hn : ¬ ((a.size + b.size : Nat) : Int) > IntKind.i64.max := by
      have : IntKind.i64.max = 9223372036854775807 := rfl
      rw [this]; omega
    simp only [execOp, pureOf_bind, hx, hy, eqGuard, binOp_string_add, Op.stringOp, if_neg hn, hab]
    rfl
  have that : fallback P ρ { dst := d, op := .binOp .add t x y yt, type := ty, pos := pos, after := af, guard := gd } = some (.string ⟨(a.data.toList ++ b.data.toList).toArray⟩) := by
    unfold fallback
    rw [if_pos hp, this]
    rfl
  unfold apure
  simp only [hx, hy, quick]
  exact that

theorem numsOf_ints : ∀ xs : List Int, numsOf (xs.map (Value.int .u8)) = some xs
  | [] => rfl
  | x :: xs => by simp only [List.map_cons, numsOf, numsOf_ints xs]

/-- Bytes in memory as a string. -/
theorem bytesK {s t e : TypeId} {x : Operand} {g n cap : Nat} {sp : Option Nat} {xs : List Int} {ro : Bool} (hs : P.underlying s = some (.slice e)) (ht : P.underlying t = some .string) (he : P.underlying e = some (.int .u8)) (hx : ρ x = .slice (some ⟨g, 0, sp⟩) n cap)
    (hg : h.get g = some (.cells (xs.map (Value.int .u8)) ro)) (hn : xs.length = n) :
    aread P ρ { dst := d, op := .convert s t x, type := ty, pos := pos, after := af, guard := gd } h = some (.string (strOfNums xs)) := by
  unfold aread
  simp only [hs, ht, he, hx, aconv, hg, List.drop_zero]
  rw [List.take_of_length_le (by simp [hn]), numsOf_ints]
  simp only
  rw [if_pos hn]

theorem lenStrK {x : Operand} {t : TypeId} {a : ByteArray} (ht : P.underlying t = some .string) (hx : ρ x = .string a) :
    apure P ρ { dst := d, op := .call { callee := .builtin .len, args := #[x], argTypes := #[t] }, type := ty, pos := pos, after := af, guard := gd } = some (.int .i64 (Int.ofNat a.size)) := by
  have hp : (Op.call { callee := .builtin .len, args := #[x], argTypes := #[t] }).operands.all (fun x => plain (ρ x)) = true := by simp [Op.operands, Call.operands, hx, plain, plain0]
  have e1 : pureOf P (underlying t) = some .string := by
    simp only [underlying, pureOf_bind]
    show Option.bind (some P) _ = _
    simp only [Option.bind_some, ht]
    rfl
  have this : pureOf P (execOp ρ { dst := d, op := .call { callee := .builtin .len, args := #[x], argTypes := #[t] }, type := ty, pos := pos, after := af, guard := gd }) = some (.value (.int .i64 (Int.ofNat a.size))) := by
    have hl : pureOf P (Builtin.len_ #[t] ty (#[x].map ρ)) = some (goInt a.size) := by
      simp only [Builtin.len_]
      simp [hx, pureOf_bind, e1]
      rfl
    simp only [execOp, resolve, invoke, builtin, pureOf_bind]
    show Option.bind (some _) _ = _
    simp only [Option.bind_some, pureOf_bind, hl]
    rfl
  have that : fallback P ρ { dst := d, op := .call { callee := .builtin .len, args := #[x], argTypes := #[t] }, type := ty, pos := pos, after := af, guard := gd } = some (.int .i64 (Int.ofNat a.size)) := by
    unfold fallback
    rw [if_pos hp, this]
    rfl
  unfold apure
  have e2 : (#[t][0]?).bind P.underlying = some .string := ht
  simp only [e2, List.map_cons, List.map_nil, hx]
  exact that

theorem fieldK {t : TypeId} {x : Operand} {i : Nat} {fs : Array Field} {f : Field} {cs : Array Value} {v : Value} (hu : P.underlying t = some (.struct fs)) (hf : fs[i]? = some f) (hx : ρ x = .agg cs) (ha : aggOf P f.type = some false) (hv : cs[f.offset]? = some v) :
    apure P ρ { dst := d, op := .field t x i, type := ty, pos := pos, after := af, guard := gd } = some v := by
  unfold apure
  simp only [hu, hx, hf, partOf, ha, hv]

theorem addU8K {t yt : TypeId} {x y : Operand} {a b : Nat} (hx : ρ x = .int .u8 (Int.ofNat a)) (hy : ρ y = .int .u8 (Int.ofNat b)) (hb : a + b < 256) :
    apure P ρ { dst := d, op := .binOp .add t x y yt, type := ty, pos := pos, after := af, guard := gd } = some (.int .u8 (Int.ofNat (a + b))) := by
  refine intK hx hy ?_
  simp only [intBin, Option.some.injEq, Value.int.injEq, true_and]
  rw [IntWalk.u8_in _ (by simp only [Int.ofNat_eq_natCast]; omega)]
  rfl
end Go.Abs
