/-
  Operations that read memory, and operations that make a new object.
-/
import Derived.Test.YtbfgncmnallhlaaDoorAbsF
import Derived.Laws.World
import Derived.IntWalk
import Derived.Laws.BytesArg
namespace Go.Abs

/-- A variable of type t at place off of object g. -/
def aload (P : Program) (h : Heap) (t : TypeId) (g off : Nat) : Option Value :=
  match h.get g with
  | some (.cells cs _) =>
    match aggOf P t with
    | some true =>
      match szOf P t with
      | some n => if off + n ≤ cs.length then some (.agg ((cs.drop off).take n).toArray) else none
      | none => none
    | some false => cs[off]?
    | none => none
  | _ => none

theorem aload_sound {N : Nat} {P : Program} {ι : Inj} {h : Heap} {w : World} (H : HRel N ι h w) {t : TypeId} {g off : Nat} {l : Loc} {v : Value} (hl : ι g = some l) (e : aload P h t g off = some v) :
    ∃ v', (loadVar t ⟨l.blk, l.base + off, none⟩).run P w = .ok v' w ∧ VRel ι v v' := by
  unfold aload at e
  cases hg : h.get g with
  | none => simp [hg] at e
  | some ob =>
    cases ob <;> try (simp [hg] at e; done)
    rename_i cs ro
    simp only [hg] at e
    cases hagg : aggOf P t with
    | none => simp [hagg] at e
    | some b =>
      cases b with
      | false =>
        simp only [hagg] at e
        obtain ⟨v', q1, q2⟩ := H.cell hl hg e
        exact ⟨v', by simp [loadVar, run_aggOf hagg, q1], q2⟩
      | true =>
        cases hs : szOf P t with
        | none => simp [hagg, hs] at e
        | some n =>
          simp only [hagg, hs] at e
          split at e
          · rename_i hle
            simp only [Option.some.injEq] at e
            subst e
            obtain ⟨vs, q1, q2⟩ := H.loadCells (P := P) hl hg hle
            exact ⟨.agg vs, by simp [loadVar, run_aggOf hagg, run_szOf hs, q1], .agg _ _ q2.1 q2.2⟩
          · cases e

/-- Cells that are bytes, as numbers. -/
def numsOf : List Value → Option (List Int)
  | [] => some []
  | .int .u8 n :: r => match numsOf r with
    | some l => some (n :: l)
    | none => none
  | _ :: _ => none

theorem numsOf_map : ∀ {cs : List Value} {xs : List Int}, numsOf cs = some xs → cs = xs.map (Value.int .u8)
  | [], xs, h => by simp only [numsOf, Option.some.injEq] at h; subst h; rfl
  | v :: r, xs, h => by
    unfold numsOf at h
    split at h
    · rename_i hv; cases hv
    · rename_i n r' hv
      cases hv
      split at h
      · rename_i l hl
        cases h
        rw [numsOf_map hl]; rfl
      · cases h
    · cases h

/-- Bytes in memory as a string. -/
def aconv (h : Heap) : Value → Option Value
  | .slice none _ _ => some (.string ByteArray.empty)
  | .slice (some ⟨g, off, _⟩) len _ =>
    match h.get g with
    | some (.cells cs _) => match numsOf ((cs.drop off).take len) with
      | some xs => if xs.length = len then some (.string (strOfNums xs)) else none
      | none => none
    | _ => none
  | _ => none

/-- An operation that reads memory: its value. -/
def aread (P : Program) (ρ : Operand → Value) (o : Oper) (h : Heap) : Option Value :=
  match o.op with
  | .load t a =>
    match ρ a with
    | .pointer (some ⟨g, off, none⟩) => aload P h t g off
    | _ => none
  | .convert s t x =>
    match P.underlying s, P.underlying t with
    | some (.slice e), some .string => match P.underlying e with
      | some (.int .u8) => aconv h (ρ x)
      | _ => none
    | _, _ => fallback P ρ o
  | _ => none

theorem aconv_sound {N : Nat} {P : Program} {ι : Inj} {h : Heap} {w : World} (H : HRel N ι h w) {s t e : TypeId} (hs : P.underlying s = some (.slice e)) (he : P.underlying e = some (.int .u8)) (ht : P.underlying t = some .string) {x x' v : Value} (r : VRel ι x x')
    (hv : aconv h x = some v) : (convert s t x').run P w = .ok v w ∧ plain v = true := by
  have key : ∀ (g off len cap' : Nat) (l : Loc) (o : Nat), ι g = some l → (len ≠ 0 → o = l.base + off) → ∀ cs ro, h.get g = some (.cells cs ro) → ∀ xs, numsOf ((cs.drop off).take len) = some xs → xs.length = len →
      (convert s t (.slice (some ⟨l.blk, o, none⟩) len cap')).run P w = .ok (.string (strOfNums xs)) w := by
    intro g off len cap' l o hl ho cs ro hg xs hx hlen
    refine run_convert_bytes_arg w s e hs he l.blk o len cap' xs hlen (fun i hi => ?_) t ht
    have hm := numsOf_map hx
    have hi' : i < xs.length := by omega
    have hc : cs[off + i]? = some (.int .u8 xs[i]) := by
      have : ((cs.drop off).take len)[i]? = some (.int .u8 xs[i]) := by rw [hm]; simp [hi']
      rw [List.getElem?_take, if_pos hi, List.getElem?_drop] at this
      exact this
    obtain ⟨v', q1, q2⟩ := H.cell hl hg hc
    have hv' := q2.plain0_eq rfl
    subst hv'
    have ho' := ho (by omega)
    subst ho'
    rw [Nat.add_assoc, q1]
    simp [List.getD, List.getElem?_eq_getElem hi']
  cases r <;> try (simp [aconv] at hv; done)
  case sliceNil =>
    simp only [aconv, Option.some.injEq] at hv
    subst hv
    exact ⟨run_convert_bytes_nil w s e hs he 0 0 t ht, rfl⟩
  case slice g off len cap o l hl hle ho =>
    simp only [aconv] at hv
    split at hv
    · rename_i cs ro hg
      split at hv
      · rename_i xs hx
        split at hv
        · rename_i hlen
          simp only [Option.some.injEq] at hv
          subst hv
          exact ⟨key g off len cap l o hl (fun _ => ho (by omega)) cs ro hg xs hx hlen, rfl⟩
        · cases hv
      · cases hv
    · cases hv
  case sliceOpen g off sp len cap cap' o l hl hle hcap ho htot =>
    simp only [aconv] at hv
    split at hv
    · rename_i cs ro hg
      split at hv
      · rename_i xs hx
        split at hv
        · rename_i hlen
          simp only [Option.some.injEq] at hv
          subst hv
          exact ⟨key g off len cap' l o hl (fun _ => ho (by omega)) cs ro hg xs hx hlen, rfl⟩
        · cases hv
      · cases hv
    · cases hv

theorem fallback_plain {P : Program} {ρ : Operand → Value} {o : Oper} {v : Value} (h : fallback P ρ o = some v) : plain v = true := by
  unfold fallback at h
  split at h
  · split at h
    · split at h
      · rename_i hp; cases h; exact hp
      · cases h
    · cases h
  · cases h

theorem aread_sound {N : Nat} {P : Program} {ι : Inj} {h : Heap} {w : World} (H : HRel N ι h w) {ρ ρ' : Operand → Value} {o : Oper} {v : Value} (hρ : ∀ x ∈ o.op.operands, VRel ι (ρ x) (ρ' x))
    (e : aread P ρ o h = some v) : ∃ v', (execOp ρ' o).run P w = .ok (.value v') w ∧ VRel ι v v' := by
  obtain ⟨dst, op, type, pos, after, guard⟩ := o
  cases op with
  | load t a =>
    have ha := hρ a (by simp [Op.operands])
    simp only [aread] at e
    generalize ea : ρ a = y0 at ha e
    generalize ea' : ρ' a = y at ha
    cases ha <;> try (simp at e; done)
    rename_i g off l hl
    simp only at e
    obtain ⟨v', q1, q2⟩ := aload_sound H hl e
    exact ⟨v', by simp [execOp, Instr.loadAt, Instr.sureAddr, ea', q1], q2⟩
  | convert s t x =>
    have hx := hρ x (by simp [Op.operands])
    have FB : ∀ {u}, fallback P ρ ⟨dst, .convert s t x, type, pos, after, guard⟩ = some u → ∃ v', (execOp ρ' ⟨dst, .convert s t x, type, pos, after, guard⟩).run P w = .ok (.value v') w ∧ VRel ι u v' :=
      fun hf => let ⟨v', q1, q2⟩ := fallback_sound (by simp) hρ hf; ⟨v', q1 w, q2⟩
    simp only [aread] at e
    split at e
    · rename_i el hs ht
      split at e
      · rename_i he
        obtain ⟨q1, q2⟩ := aconv_sound H hs he ht hx e
        exact ⟨v, by simp [execOp, q1], VRel.plain_refl q2⟩
      · cases e
    · exact FB e
  | _ => simp [aread] at e

theorem map_range0 {α : Type} (f : Nat → α) : (Array.range 0).map f = #[] := Array.eq_empty_of_size_eq_zero (by simp)

/-- Cells filled with a zero value, as the model has them. -/
def zrow (zero : Array Value) (n : Nat) : Array Value := (Array.range n).map fun i => zero[i % zero.size]!

theorem zrow_size (z : Array Value) (n : Nat) : (zrow z n).size = n := by simp [zrow]

theorem zrow_plain {z : Array Value} (h : z.all plain0 = true) (n : Nat) : (zrow z n).all plain0 = true := by
  rw [Array.all_eq_true_iff_forall_mem]
  intro v hv
  simp only [zrow, Array.mem_map] at hv
  obtain ⟨i, _, rfl⟩ := hv
  rw [Array.getElem!_eq_getD, Array.getD_eq_getD_getElem?]
  cases e : z[i % z.size]? with
  | none => rfl
  | some u => exact (Array.all_eq_true_iff_forall_mem.1 h) u (Array.mem_of_getElem? e)

theorem zrow_one (v : Value) (n : Nat) : (zrow #[v] n).toList = List.replicate n v := by
  apply List.ext_getElem
  · simp [zrow]
  · intro i h1 h2
    simp [zrow, Nat.mod_one]

/-- An operation that makes one object: the object, and the value as a function of the object's number. -/
def anew (P : Program) (ρ : Operand → Value) (o : Oper) : Option (AObj × (Nat → Value)) :=
  match o.op with
  | .alloc t =>
    match zeroOf P t with
    | some z => if z.cells.all plain0 then some (.cells z.cells.toList false, fun g => .pointer (some ⟨g, 0, none⟩)) else none
    | none => none
  | .box _ x => some (.cells (ρ x).cells.toList false, fun g => .pointer (some ⟨g, 0, none⟩))
  | .buildSlice t len ps =>
    match P.underlying t with
    | some (.slice e) =>
      match szOf P e, zeroOf P e with
      | some s, some z =>
        if z.cells.all plain0 && decide (0 < len * s) && decide (len * s ≤ 2 ^ 24) then
          match Instr.fill (fun i => some (i * s, s)) (zrow z.cells (len * s)) (ps.toList.map fun p => (p.1, ρ p.2)) with
          | some cells => some (.cells cells.toList false, fun g => .slice (some ⟨g, 0, none⟩) len len)
          | none => none
        else if len = 0 ∧ ps.size = 0 then some (.cells [] false, fun g => .slice (some ⟨g, 0, none⟩) 0 0)
        else none
      | _, _ => none
    | _ => none
  | .makeSlice t l c =>
    match P.underlying t, ρ l, ρ c with
    | some (.slice e), .int _ l, .int _ c =>
      match szOf P e, byOf P e, zeroOf P e with
      | some s, some b, some z =>
        if 0 ≤ l ∧ l ≤ c ∧ (b : Int) * c ≤ 2 ^ 48 ∧ c < 2 ^ 63 ∧ z.cells.all plain0 = true then
          some (.cells (zrow z.cells (c.toNat * s)).toList false, fun g => .slice (some ⟨g, 0, none⟩) l.toNat c.toNat)
        else none
      | _, _, _ => none
    | _, _, _ => none
  | .makeMap _ none => some (.map [], fun g => .map (some g))
  | _ => none

theorem ORel.row {ι : Inj} {xs ys : Array Value} (r : ARel ι xs ys) (b : Nat) (t : TypeId) : ORel ι ⟨b, 0, ys.size⟩ (.cells xs.toList false) (some (.cells ys t)) := by
  refine ⟨ys, t, (0, 0), rfl, fun _ => rfl, rfl, by simp [r.1], fun i v e => ?_⟩
  obtain ⟨v', q1, q2⟩ := r.get (i := i) (v := v) (by simpa using e)
  exact ⟨v', by simpa using q1, q2⟩

theorem wrap_i64 {n : Int} (h0 : 0 ≤ n) (h1 : n < 2 ^ 63) : IntKind.i64.wrap n = n := by
  exact IntWalk.i64_in n (by omega)

theorem run_askRoom {P : Program} (n : Nat) (w : World) : (askRoom n).run P w = .ok () w := by
  unfold askRoom
  split
  · simp [mark, Sem.run]
  · rfl

theorem anew_sound {P : Program} {ι : Inj} {ρ ρ' : Operand → Value} {o : Oper} {ob : AObj} {f : Nat → Value} (hρ : ∀ x ∈ o.op.operands, VRel ι (ρ x) (ρ' x)) (e : anew P ρ o = some (ob, f)) (w : World) :
    ∃ o' tot v', (execOp ρ' o).run P w = .ok (.value v') (w.alloc o') ∧ ∀ ι1 g, (∀ k l, ι k = some l → ι1 k = some l) → ι1 g = some ⟨w.heap.size, 0, tot⟩ →
      ORel ι1 ⟨w.heap.size, 0, tot⟩ ob (some o') ∧ VRel ι1 (f g) v' := by
  obtain ⟨dst, op, type, pos, after, guard⟩ := o
  cases op with
  | alloc t =>
    simp only [anew] at e
    cases hz : zeroOf P t with
    | none => simp [hz] at e
    | some z =>
      simp only [hz] at e
      split at e
      · rename_i hp
        simp only [Option.some.injEq, Prod.mk.injEq] at e
        obtain ⟨rfl, rfl⟩ := e
        refine ⟨.cells z.cells t, z.cells.size, .pointer (some ⟨w.heap.size, 0, none⟩), ?_, fun ι1 g _ hg => ⟨ORel.row (ARel.plain_refl hp) _ _, ?_⟩⟩
        · simp [execOp, Instr.alloc, run_zeroOf hz, newVar, newRow]
        · exact .ptr g 0 _ hg
      · cases e
  | box t x =>
    have hx := hρ x (by simp [Op.operands])
    simp only [anew, Option.some.injEq, Prod.mk.injEq] at e
    obtain ⟨rfl, rfl⟩ := e
    refine ⟨.cells (ρ' x).cells t, (ρ' x).cells.size, .pointer (some ⟨w.heap.size, 0, none⟩), ?_, fun ι1 g hext hg => ⟨ORel.row (hx.cells.mono hext) _ _, ?_⟩⟩
    · simp [execOp, Instr.box, newVar, newRow]
    · exact .ptr g 0 _ hg
  | buildSlice t len ps =>
    simp only [anew] at e
    cases hu : P.underlying t with
    | none => simp [hu] at e
    | some d =>
      cases d <;> try (simp [hu] at e; done)
      rename_i el
      cases hs : szOf P el with
      | none => simp [hu, hs] at e
      | some s =>
        cases hz : zeroOf P el with
        | none => simp [hu, hs, hz] at e
        | some z =>
          simp only [hu, hs, hz] at e
          split at e
          · rename_i hp
            simp only [Bool.and_eq_true, decide_eq_true_eq] at hp
            cases hf : Instr.fill (fun i => some (i * s, s)) (zrow z.cells (len * s)) (ps.toList.map fun p => (p.1, ρ p.2)) with
            | none => simp [hf] at e
            | some cells =>
              simp only [hf, Option.some.injEq, Prod.mk.injEq] at e
              obtain ⟨rfl, rfl⟩ := e
              have hps : ∀ p ∈ ps.toList, VRel ι (ρ p.2) (ρ' p.2) := fun p hp => hρ p.2 (by simp only [Op.operands, List.mem_toArray, List.mem_map]; exact ⟨p, hp, rfl⟩)
              obtain ⟨cells', q1, q2⟩ := fill_rel ps.toList hps _ _ _ (ARel.plain_refl (zrow_plain hp.1.1 (len * s))) hf
              refine ⟨.cells cells' el, cells'.size, .slice (some ⟨w.heap.size, 0, none⟩) len len, ?_, fun ι1 g hext hg => ⟨ORel.row (q2.mono hext) _ _, ?_⟩⟩
              · have h1 : ¬ len * s > 2 ^ 24 := by omega
                have h2 : ¬ len * s = 0 := by omega
                have h3 : (ps.map fun (x : Nat × Operand) => (x.1, ρ' x.2)).toList = ps.toList.map fun p => (p.1, ρ' p.2) := by simp
                have q1' : Instr.fill (fun i => some (i * s, s)) ((Array.range (len * s)).map (fun i => z.cells[i % z.cells.size]!)) (ps.map fun (x : Nat × Operand) => (x.1, ρ' x.2)).toList = some cells' := by rw [h3]; exact q1
                simp only [execOp, Instr.buildSlice, Sem.run_bind, run_under hu, Result.andThen_ok, run_szOf hs, h1, h2, if_false, run_zeroOf hz]
                simp only [Sem.run_pure, Result.andThen_ok, q1']
                simp [newRow]
              · exact .slice g 0 _ _ _ _ hg (Nat.le_refl _) (fun _ => rfl)
          · split at e
            · rename_i hc
              obtain ⟨h0, h1⟩ := hc
              subst h0
              simp only [Option.some.injEq, Prod.mk.injEq] at e
              obtain ⟨rfl, rfl⟩ := e
              have hps : ps = #[] := Array.eq_empty_of_size_eq_zero h1
              subst hps
              refine ⟨.cells #[] el, 0, .slice (some ⟨w.heap.size, 0, none⟩) 0 0, ?_, fun ι1 g hext hg => ⟨?_, ?_⟩⟩
              · simp [execOp, Instr.buildSlice, run_under hu, run_szOf hs, Instr.fill, newRow]
                rw [map_range0]
              · exact ⟨#[], el, (0, 0), rfl, fun _ => rfl, rfl, by simp, by simp⟩
              · exact .slice g 0 _ _ _ _ hg (Nat.le_refl _) (fun _ => rfl)
            · cases e
  | makeSlice t l c =>
    have hl := hρ l (by simp [Op.operands])
    have hc := hρ c (by simp [Op.operands])
    simp only [anew] at e
    cases hu : P.underlying t with
    | none => simp [hu] at e
    | some d =>
      cases d <;> try (simp [hu] at e; done)
      rename_i el
      generalize el0 : ρ l = y0 at hl e
      generalize el1 : ρ' l = y1 at hl
      generalize ec0 : ρ c = z0 at hc e
      generalize ec1 : ρ' c = z1 at hc
      cases hl <;> try (simp [hu] at e; done)
      rename_i k1 n
      cases hc <;> try (simp [hu] at e; done)
      rename_i k2 m
      cases hs : szOf P el with
      | none => simp [hu, hs] at e
      | some s =>
        cases hb : byOf P el with
        | none => simp [hu, hs, hb] at e
        | some b =>
          cases hz : zeroOf P el with
          | none => simp [hu, hs, hb, hz] at e
          | some z =>
            simp only [hu, hs, hb, hz] at e
            split at e
            · rename_i hcond
              obtain ⟨c1, c2, c3, c4, c5⟩ := hcond
              simp only [Option.some.injEq, Prod.mk.injEq] at e
              obtain ⟨rfl, rfl⟩ := e
              refine ⟨.cells (zrow z.cells (m.toNat * s)) el, (zrow z.cells (m.toNat * s)).size, .slice (some ⟨w.heap.size, 0, none⟩) n.toNat m.toNat, ?_, fun ι1 g hext hg => ⟨ORel.row (ARel.plain_refl (zrow_plain c5 _)) _ _, ?_⟩⟩
              · have w1 := wrap_i64 c1 (by omega : n < 2 ^ 63)
                have w2 := wrap_i64 (by omega : 0 ≤ m) c4
                have hinfo : ∃ i, P.info? el = some i ∧ i.bytes = b := by
                  unfold byOf at hb
                  cases hi : P.info? el with
                  | none => simp [hi] at hb
                  | some i => exact ⟨i, rfl, by simpa [hi] using hb⟩
                obtain ⟨i, hi, rfl⟩ := hinfo
                have t1 : ¬ (m < 0 ∨ (i.bytes : Int) * m > 2 ^ 48) := by omega
                have t2 : ¬ n < 0 := by omega
                have t3 : ¬ n > m := by omega
                simp only [execOp, Instr.makeSlice, el1, ec1, Sem.run_bind, run_under hu, Result.andThen_ok, asInt, asIntOf, Sem.run_pure, typeInfo, run_program, hi, w1, w2]
                simp only [decide_eq_false (show ¬ m < 0 by omega), decide_eq_false t2, decide_eq_false t3, decide_eq_false (show ¬ (i.bytes : Int) * m > 2 ^ 48 by omega), Bool.or_self, Bool.false_or, Bool.false_eq_true, if_false]
                simp only [run_askRoom, run_szOf hs, Sem.run_bind, Result.andThen_ok]
                by_cases q : m.toNat * s = 0
                · simp [q, newRow, zrow]
                  rw [map_range0, map_range0]
                · simp [q, newRow, zrow, run_zeroOf hz]
              · refine .slice g 0 _ _ _ _ hg (by omega) (fun _ => rfl)
            · cases e
  | makeMap t r =>
    cases r with
    | some r => simp [anew] at e
    | none =>
      simp only [anew, Option.some.injEq, Prod.mk.injEq] at e
      obtain ⟨rfl, rfl⟩ := e
      refine ⟨.map #[] 0, 0, .map (some w.heap.size), ?_, fun ι1 g hext hg => ⟨⟨#[], 0, rfl, rfl, rfl, by simp⟩, .map g _ hg⟩⟩
      simp [execOp, Instr.makeMap]
  | _ => simp [anew] at e
end Go.Abs
