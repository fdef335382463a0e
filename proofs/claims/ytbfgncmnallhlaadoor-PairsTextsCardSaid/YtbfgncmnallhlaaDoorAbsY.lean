/-
  Arguments: plain data (numbers, truth values, texts, structs, arrays, and slices of those), laid in the abstract heap as objects that are only read.
-/
import Derived.Test.YtbfgncmnallhlaaDoorAbsX
namespace Go.Abs
open Go.ChangeShapes Go.RowKit

/-! ### shapes of data -/

inductive Sh where
  | int (k : IntKind) | bool | str | unit
  | pair (a b : Sh)
  | slice (e : Sh)

@[reducible] def Sh.Den : Sh → Type
  | .int _ => Int
  | .bool => Bool
  | .str => ByteArray
  | .unit => Unit
  | .pair a b => a.Den × b.Den
  | .slice e => List e.Den

def Sh.flat : Sh → Bool
  | .pair a b => a.flat && b.flat
  | .slice _ => false
  | _ => true

def Sh.size : Sh → Nat
  | .unit => 0
  | .pair a b => a.size + b.size
  | _ => 1

/-- The cells of a datum without slices. -/
def Sh.cells : (s : Sh) → s.Den → List Value
  | .int k, n => [.int k n]
  | .bool, b => [.bool b]
  | .str, s => [.string s]
  | .unit, _ => []
  | .pair a b, x => a.cells x.1 ++ b.cells x.2
  | .slice _, _ => []

/-- What holds of every datum that is handed in. -/
def Sh.wf : (s : Sh) → s.Den → Prop
  | .int k, n => (Lit.int k n).wf = true
  | .bool, _ => True
  | .str, s => s.size ≤ maxLen
  | .unit, _ => True
  | .pair a b, x => a.wf x.1 ∧ b.wf x.2
  | .slice e, l => l.length ≤ maxLen ∧ ∀ x ∈ l, e.wf x

/-- Cells that stand for a datum. -/
def Rep (h : Heap) : (s : Sh) → s.Den → List Value → Prop
  | .int k, n, cs => cs = [.int k n]
  | .bool, b, cs => cs = [.bool b]
  | .str, s, cs => cs = [.string s]
  | .unit, _, cs => cs = []
  | .pair a b, x, cs => ∃ c1 c2, cs = c1 ++ c2 ∧ Rep h a x.1 c1 ∧ Rep h b x.2 c2
  | .slice e, l, cs => (cs = [.slice none 0 0] ∧ l = []) ∨ ∃ g cap, cs = [.slice (some ⟨g, 0, none⟩) l.length cap] ∧ l.length ≤ cap ∧ cap ≤ maxLen ∧ h.get g = some (.cells (l.flatMap e.cells) true)

theorem Rep.ext {h h1 : Heap} (e : Ext h h1) : ∀ {s : Sh} {v : s.Den} {cs : List Value}, Rep h s v cs → Rep h1 s v cs
  | .int _, _, _, r => r
  | .bool, _, _, r => r
  | .str, _, _, r => r
  | .unit, _, _, r => r
  | .pair a b, _, _, r => by
    obtain ⟨c1, c2, h1, h2, h3⟩ := r
    exact ⟨c1, c2, h1, h2.ext e, h3.ext e⟩
  | .slice _, _, _, r => by
    rcases r with r | ⟨g, cap, h1, h2, h3, h4⟩
    · exact .inl r
    · exact .inr ⟨g, cap, h1, h2, h3, e.get h4⟩

theorem Sh.cells_plain : ∀ (s : Sh) (v : s.Den), (s.cells v).all plain0 = true
  | .int _, _ => rfl
  | .bool, _ => rfl
  | .str, _ => rfl
  | .unit, _ => rfl
  | .pair a b, x => by simp only [Sh.cells, List.all_append, Sh.cells_plain a x.1, Sh.cells_plain b x.2, Bool.and_self]
  | .slice _, _ => rfl

theorem Sh.cells_len : ∀ (s : Sh), s.flat = true → ∀ v : s.Den, (s.cells v).length = s.size
  | .int _, _, _ => rfl
  | .bool, _, _ => rfl
  | .str, _, _ => rfl
  | .unit, _, _ => rfl
  | .pair a b, h, x => by
    simp only [Sh.flat, Bool.and_eq_true] at h
    simp only [Sh.cells, List.length_append, Sh.cells_len a h.1 x.1, Sh.cells_len b h.2 x.2, Sh.size]
  | .slice _, h, _ => by cases h

/-! ### the shape of a type -/

mutual
def shOf (P : Program) : Nat → TypeId → Option Sh
  | 0, _ => none
  | d + 1, t =>
    match P.underlying t with
    | some .bool => some .bool
    | some (.int k) => some (.int k)
    | some .string => some .str
    | some (.struct fs) => match shFields P d 0 fs.toList with
      | some s => if P.cellsOf t = s.size then some s else none
      | none => none
    | some (.array n e) => match shOf P d e with
      | some s => if s.size = P.cellsOf e ∧ P.cellsOf t = n * s.size then some (rep n s) else none
      | none => none
    | some (.slice e) => match shOf P d e with
      | some s => if s.size = P.cellsOf e ∧ s.flat = true ∧ 0 < s.size then some (.slice s) else none
      | none => none
    | _ => none
def shFields (P : Program) : Nat → Nat → List Field → Option Sh
  | 0, _, _ => none
  | _ + 1, _, [] => some .unit
  | d + 1, off, f :: r => match shOf P d f.type, shFields P d (off + P.cellsOf f.type) r with
    | some a, some b => if f.offset = off ∧ a.size = P.cellsOf f.type then some (.pair a b) else none
    | _, _ => none
def rep : Nat → Sh → Sh
  | 0, _ => .unit
  | n + 1, s => .pair s (rep n s)
end

theorem rep_size (s : Sh) : ∀ n, (rep n s).size = n * s.size
  | 0 => by simp [rep, Sh.size]
  | n + 1 => by rw [rep, Sh.size, rep_size s n, Nat.add_mul, Nat.one_mul, Nat.add_comm]

/-! ### flat data -/

section
variable {H : Type} {enc : TypeId × Value → H} {P : Program} {W : World} {spare : Nat → Bool} {held : Bool} {base : Nat}

/-- What is to be shown of a datum that is read: its cells stand for it. -/
def Laid (W : World) (objs : List AObj) (locs : List Loc) (s : Sh) (cs : List Value) : Prop :=
  ∃ (mo : List AObj) (ml : List Loc) (acs : List Value) (v : s.Den), mo.length = ml.length ∧ (∀ o ∈ mo, ∃ c, o = .cells c true) ∧ (∀ l ∈ ml, l.blk < W.heap.size) ∧ s.wf v ∧ Rep (heapOf (objs ++ mo)) s v acs ∧
    LRel (fun g : Nat => (locs ++ ml)[g]?) acs cs ∧ ∀ (i : Nat) l o, ml[i]? = some l → mo[i]? = some o → ORel (fun g : Nat => (locs ++ ml)[g]?) l o W.heap[l.blk]?

/-- Slices among the cells lie in blocks that are there. -/
def Solid (W : World) (cs : List Value) : Prop := ∀ a n cap, Value.slice (some a) n cap ∈ cs → a.spot = none ∧ ∃ C ty fr, W.heap[a.block]? = some (.cells C ty fr)

theorem heapOf_ext (a b : List AObj) : Ext (heapOf a) (heapOf (a ++ b)) := by
  refine ⟨by simp [heapOf], fun g hg => ?_⟩
  have hg' : g < a.length := hg
  rw [heapOf_get, heapOf_get, List.getElem?_append_left hg']

theorem locs_ext (a b : List Loc) : ∀ g l, (fun g : Nat => a[g]?) g = some l → (fun g : Nat => (a ++ b)[g]?) g = some l := by
  intro g l e
  have : g < a.length := (List.getElem?_eq_some_iff.1 e).1
  show (a ++ b)[g]? = some l
  rw [List.getElem?_append_left this]; exact e

theorem Laid.pair {objs : List AObj} {locs : List Loc} (hlen : objs.length = locs.length) {a b : Sh} {c1 c2 : List Value} (h1 : Laid W objs locs a c1) (h2 : ∀ objs locs, objs.length = locs.length → Laid W objs locs b c2) : Laid W objs locs (.pair a b) (c1 ++ c2) := by
  obtain ⟨mo, ml, acs, v, k1, k2, k3, k4, k5, k6, k7⟩ := h1
  obtain ⟨mo', ml', acs', v', q1, q2, q3, q4, q5, q6, q7⟩ := h2 (objs ++ mo) (locs ++ ml) (by simp [hlen, k1])
  refine ⟨mo ++ mo', ml ++ ml', acs ++ acs', (v, v'), by simp [k1, q1], ?_, ?_, ⟨k4, q4⟩, ?_, ?_, ?_⟩
  · intro o ho
    rcases List.mem_append.1 ho with m | m
    · exact k2 o m
    · exact q2 o m
  · intro o ho
    rcases List.mem_append.1 ho with m | m
    · exact k3 o m
    · exact q3 o m
  · rw [← List.append_assoc]
    exact ⟨acs, acs', rfl, k5.ext (heapOf_ext _ _), q5⟩
  · rw [← List.append_assoc]
    exact (k6.mono (locs_ext _ _)).append q6
  · rw [← List.append_assoc]
    intro i l o e1 e2
    by_cases hi : i < ml.length
    · rw [List.getElem?_append_left hi] at e1
      rw [List.getElem?_append_left (by omega)] at e2
      exact (k7 i l o e1 e2).mono (locs_ext _ _)
    · rw [List.getElem?_append_right (by omega)] at e1
      rw [List.getElem?_append_right (by omega), k1] at e2
      exact q7 _ l o e1 e2

theorem Laid.flat {objs : List AObj} {locs : List Loc} {s : Sh} {cs : List Value} (v : s.Den) (hw : s.wf v) (hr : Rep (heapOf objs) s v cs) (hp : cs.all plain0 = true) : Laid W objs locs s cs :=
  ⟨[], [], cs, v, rfl, by simp, by simp, hw, by rw [List.append_nil]; exact hr, by
    refine LRel.of_get rfl fun i x y e1 e2 => ?_
    rw [e1] at e2; cases e2
    exact VRel.plain0_refl (List.all_eq_true.1 hp x (List.mem_of_getElem? e1)), by simp⟩

theorem flatMap_get {α : Type} {f : α → List Value} {s : Nat} (hs : 0 < s) : ∀ (l : List α), (∀ x ∈ l, (f x).length = s) → ∀ i : Nat, (l.flatMap f)[i]? = (l[i / s]?).bind fun x => (f x)[i % s]?
  | [], _, i => by simp
  | x :: l, hl, i => by
    have hx := hl x (by simp)
    rw [List.flatMap_cons]
    by_cases c : i < s
    · rw [List.getElem?_append_left (by omega), Nat.div_eq_of_lt c, Nat.mod_eq_of_lt c]
      simp
    · rw [List.getElem?_append_right (by omega), hx, flatMap_get hs l (fun y m => hl y (by simp [m])) (i - s)]
      have h1 : i / s = (i - s) / s + 1 := by rw [← Nat.add_div_right _ hs]; congr 1; omega
      have h2 : i % s = (i - s) % s := by rw [Nat.mod_eq_sub_mod (by omega)]
      rw [h1, h2, List.getElem?_cons_succ]

theorem Solid.left {a b : List Value} (h : Solid W (a ++ b)) : Solid W a := fun x n c m => h x n c (List.mem_append_left _ m)
theorem Solid.right {a b : List Value} (h : Solid W (a ++ b)) : Solid W b := fun x n c m => h x n c (List.mem_append_right _ m)

theorem cells?_get {a : Addr} {n : Nat} {cs : List Value} (h : W.cells? base a n = some cs) : cs.length = n ∧ ∀ i, i < n → W.cell? (a.add i) = cs[i]? := by
  unfold World.cells? at h
  split at h
  · refine ⟨by simpa using mapM_some_length h, fun i hi => mapM_some_get h i i (by simp [hi])⟩
  · cases h

/-- A property of data that structs and arrays hand on. -/
structure Goes (Good : (s : Sh) → List Value → Prop) : Prop where
  unit : Good .unit []
  pair : ∀ {a b c1 c2}, Good a c1 → Good b c2 → Good (.pair a b) (c1 ++ c2)

theorem fields_good {Good : (s : Sh) → List Value → Prop} (G : Goes Good) {d n : Nat} {cs : List Value} {xs : List (DataW H × List MemPlace)}
    (IH : ∀ d', d' < d → ∀ (t : TypeId) (s : Sh), shOf P d' t = some s → ∀ (fuel : Nat) (cs : List Value) (x : DataW H × List MemPlace), DataW.trod enc P W base (fun _ => true) held fuel t cs = some x → Good s cs) :
    ∀ (d' : Nat), d' ≤ d → ∀ (fs : List Field) (off k : Nat) (s : Sh), shFields P d' off fs = some s → (∀ (i : Nat) (f : Field), fs[i]? = some f → ∃ x, xs[k + i]? = some x ∧ DataW.trod enc P W base (fun _ => true) held n f.type ((cs.drop f.offset).take (P.cellsOf f.type)) = some x) → cs.length = off + s.size → Good s (cs.drop off)
  | 0, _, _, _, _, _, h, _, _ => by simp [shFields] at h
  | d' + 1, hd, [], off, k, s, h, _, hl => by
    simp only [shFields, Option.some.injEq] at h
    subst h
    have : cs.drop off = [] := List.drop_eq_nil_of_le (by simp [Sh.size] at hl; omega)
    rw [this]
    exact G.unit
  | d' + 1, hd, f :: r, off, k, s, h, hx, hl => by
    simp only [shFields] at h
    split at h
    · rename_i a b ha hb
      split at h
      · rename_i hc
        obtain ⟨ho, hsz⟩ := hc
        simp only [Option.some.injEq] at h
        subst h
        obtain ⟨x, _, hx0⟩ := hx 0 f rfl
        rw [ho] at hx0
        have hlen : cs.length = off + (a.size + b.size) := hl
        have split : cs.drop off = (cs.drop off).take (P.cellsOf f.type) ++ cs.drop (off + P.cellsOf f.type) := by
          rw [← List.drop_drop, List.take_append_drop]
        rw [split]
        refine G.pair (IH d' (by omega) f.type a ha n _ x hx0) ?_
        exact fields_good G IH d' (by omega) r (off + P.cellsOf f.type) (k + 1) b hb (fun i g hg => by
          have := hx (i + 1) g (by simpa using hg)
          rw [show k + 1 + i = k + (i + 1) by omega]; exact this) (by omega)
      · cases h
    · cases h

theorem rep_good {Good : (s : Sh) → List Value → Prop} (G : Goes Good) {s : Sh} {cs : List Value} {c N : Nat} (each : ∀ i, i < N → Good s ((cs.drop (i * c)).take c)) (hl : cs.length = N * c) :
    ∀ (m k : Nat), k + m = N → Good (rep m s) (cs.drop (k * c))
  | 0, k, hk => by
    have : cs.drop (k * c) = [] := List.drop_eq_nil_of_le (by rw [hl, ← hk]; simp)
    rw [this]
    exact G.unit
  | m + 1, k, hk => by
    have split : cs.drop (k * c) = (cs.drop (k * c)).take c ++ cs.drop ((k + 1) * c) := by
      rw [Nat.add_mul, Nat.one_mul, ← List.drop_drop, List.take_append_drop]
    rw [split]
    exact G.pair (each k (by omega)) (rep_good G each hl m (k + 1) (by omega))

theorem read_good {Good : (s : Sh) → List Value → Prop} (G : Goes Good) (hint : ∀ k n, (Lit.int k n).wf = true → Good (.int k) [.int k n]) (hbool : ∀ b, Good .bool [.bool b]) (hstr : ∀ s : ByteArray, s.size ≤ maxLen → Good .str [.string s])
    (hslice : ∀ d e t cs (s : Sh) fuel (x : DataW H × List MemPlace), P.underlying t = some (.slice e) → shOf P d e = some s → s.size = P.cellsOf e → s.flat = true → 0 < s.size → DataW.trod enc P W base (fun _ => true) held fuel t cs = some x → Good (.slice s) cs) :
    ∀ (d : Nat) (t : TypeId) (s : Sh), shOf P d t = some s → ∀ (fuel : Nat) (cs : List Value) (x : DataW H × List MemPlace), DataW.trod enc P W base (fun _ => true) held fuel t cs = some x → Good s cs := by
  intro d
  induction d using Nat.strongRecOn with
  | _ d IH =>
    intro t s hs fuel cs x ht
    cases d with
    | zero => simp [shOf] at hs
    | succ d =>
      unfold shOf at hs
      split at hs
      · rename_i hu
        cases hs
        obtain ⟨b, rfl, _⟩ := DataW.trod_bool hu ht
        exact hbool b
      · rename_i k hu
        cases hs
        obtain ⟨n, rfl, _, hw⟩ := DataW.trod_int hu ht
        exact hint k n hw
      · rename_i hu
        cases hs
        obtain ⟨b, rfl, _, hw⟩ := DataW.trod_string hu ht
        exact hstr b hw
      · rename_i fs hu
        split at hs
        · rename_i s' hf
          split at hs
          · rename_i hsz
            cases hs
            obtain ⟨xs, m, _, _, h1, h2, h3⟩ := DataW.trod_struct hu ht
            have := fields_good (n := m) (xs := xs) G (fun d' hd' => IH d' (by omega)) d (Nat.le_refl _) fs.toList 0 0 s hf (fun i f hf => by
              have hf' : fs[i]? = some f := by simpa using hf
              have hi : i < fs.size := (Array.getElem?_eq_some_iff.1 hf').1
              refine ⟨xs[i], by rw [Nat.zero_add]; exact List.getElem?_eq_getElem (by omega), ?_⟩
              rw [h3 i f hf']; exact List.getElem?_eq_getElem (by omega)) (by rw [h1, hsz, Nat.zero_add])
            simpa using this
          · cases hs
        · cases hs
      · rename_i n e hu
        split at hs
        · rename_i s' hf
          split at hs
          · rename_i hsz
            cases hs
            obtain ⟨xs, m, _, _, h1, h2, h3⟩ := DataW.trod_array hu ht
            have := rep_good (N := n) (c := P.cellsOf e) (cs := cs) (s := s') G (fun i hi => IH d (by omega) e s' hf m _ xs[i] ((h3 i hi).trans (List.getElem?_eq_getElem (by omega)))) (by rw [h1, hsz.2, hsz.1]) n 0 (by omega)
            simpa using this
          · cases hs
        · cases hs
      · rename_i e hu
        split at hs
        · rename_i s' hf
          split at hs
          · rename_i hsz
            cases hs
            exact hslice d e t cs s' fuel x hu hf hsz.1 hsz.2.1 hsz.2.2 ht
          · cases hs
        · cases hs
      · cases hs

/-- Data without slices: its cells are what it says. -/
theorem flat_read (d : Nat) (t : TypeId) (s : Sh) (hs : shOf P d t = some s) (fuel : Nat) (cs : List Value) (x : DataW H × List MemPlace) (ht : DataW.trod enc P W base (fun _ => true) held fuel t cs = some x) (hf : s.flat = true) : ∃ v : s.Den, cs = s.cells v ∧ s.wf v := by
  refine read_good (Good := fun s cs => s.flat = true → ∃ v : s.Den, cs = s.cells v ∧ s.wf v) ⟨fun _ => ⟨(), rfl, trivial⟩, fun {a b c1 c2} g1 g2 hf => ?_⟩ (fun k n hw _ => ⟨n, rfl, hw⟩) (fun b _ => ⟨b, rfl, trivial⟩) (fun b hw _ => ⟨b, rfl, hw⟩) (fun d e t cs s fuel x _ _ _ _ _ _ hf => by cases hf) d t s hs fuel cs x ht hf
  simp only [Sh.flat, Bool.and_eq_true] at hf
  obtain ⟨v1, rfl, w1⟩ := g1 hf.1
  obtain ⟨v2, rfl, w2⟩ := g2 hf.2
  exact ⟨(v1, v2), rfl, w1, w2⟩

theorem add_eq (b o k : Nat) : (⟨b, o, none⟩ : Addr).add k = ⟨b, o + k, none⟩ := by
  unfold Addr.add
  split
  · rename_i h; subst h; rfl
  · rfl

theorem slice_laid {e : Sh} {et : TypeId} {a : Addr} {len cap n : Nat} {elems rest : List (DataW H × List MemPlace)} (hflat : e.flat = true) (hpos : 0 < e.size) (hsz : e.size = P.cellsOf et)
    (IH : ∀ (fuel : Nat) (cs : List Value) (x : DataW H × List MemPlace), DataW.trod enc P W base (fun _ => true) held fuel et cs = some x → ∃ v : e.Den, cs = e.cells v ∧ e.wf v)
    (hlc : len ≤ cap) (hcm : cap ≤ maxLen) (hel : elems.length = len)
    (h1 : ∀ i, i < len → (W.cells? base (a.add (i * P.cellsOf et)) (P.cellsOf et)).bind (DataW.trod enc P W base (fun _ => true) held n et) = elems[i]?)
    (h2 : rest.length = cap - len ∧ ∀ j, j < cap - len → (W.cells? base (a.add ((len + j) * P.cellsOf et)) (P.cellsOf et)).bind (DataW.trod enc P W base (fun _ => true) held n et) = rest[j]?)
    (hsol : Solid W [.slice (some a) len cap]) : ∀ objs locs, objs.length = locs.length → Laid W objs locs (.slice e) [.slice (some a) len cap] := by
  intro objs locs hol
  obtain ⟨hsp, C, ty, fr, hC⟩ := hsol a len cap (by simp)
  obtain ⟨ab, ao, asp⟩ := a
  simp only at hsp
  subst hsp
  have celln : ∀ k, W.cell? ((⟨ab, ao, none⟩ : Addr).add k) = C[ao + k]? := fun k => by
    rw [add_eq]
    simp only [World.cell?, hC]
    rfl
  have got : ∀ i, i < len → ∃ v : e.Den, (∀ k, k < e.size → C[ao + i * e.size + k]? = (e.cells v)[k]?) ∧ e.wf v := fun i hi => by
    have := h1 i hi
    obtain ⟨y, hy⟩ : ∃ y, elems[i]? = some y := ⟨_, List.getElem?_eq_getElem (by omega)⟩
    rw [hy, Option.bind_eq_some_iff] at this
    obtain ⟨cs, hc, ht⟩ := this
    obtain ⟨v, rfl, hw⟩ := IH n cs y ht
    refine ⟨v, fun k hk => ?_, hw⟩
    have := (cells?_get hc).2 k (by omega)
    rw [← this, ← hsz]
    have : ((⟨ab, ao, none⟩ : Addr).add (i * e.size)).add k = (⟨ab, ao, none⟩ : Addr).add (i * e.size + k) := by rw [add_eq, add_eq, add_eq, Nat.add_assoc]
    rw [this, celln, Nat.add_assoc]
  obtain ⟨l, hll, hl⟩ : ∃ l : List e.Den, l.length = len ∧ ∀ i v, l[i]? = some v → (∀ k, k < e.size → C[ao + i * e.size + k]? = (e.cells v)[k]?) ∧ e.wf v := by
    have : ∀ m, m ≤ len → ∃ l : List e.Den, l.length = m ∧ ∀ i v, l[i]? = some v → (∀ k, k < e.size → C[ao + i * e.size + k]? = (e.cells v)[k]?) ∧ e.wf v := by
      intro m
      induction m with
      | zero => intro _; exact ⟨[], rfl, fun i v e => by simp at e⟩
      | succ m ih =>
        intro hm
        obtain ⟨l, q1, q2⟩ := ih (by omega)
        obtain ⟨v, hv⟩ := got m (by omega)
        refine ⟨l ++ [v], by simp [q1], fun i u hu => ?_⟩
        by_cases hi : i < l.length
        · rw [List.getElem?_append_left hi] at hu; exact q2 i u hu
        · rw [List.getElem?_append_right (by omega)] at hu
          have : i - l.length = 0 := by
            have := (List.getElem?_eq_some_iff.1 hu).1
            simp at this; omega
          rw [this] at hu
          simp only [List.getElem?_cons_zero, Option.some.injEq] at hu
          subst hu
          have : i = m := by omega
          subst this
          exact hv
    exact this len (Nat.le_refl _)
  have hlen : ∀ x ∈ l, (e.cells x).length = e.size := fun x _ => Sh.cells_len e hflat x
  have hflen : (l.flatMap e.cells).length = len * e.size := by
    rw [← hll]
    clear hl hll
    induction l with
    | nil => simp
    | cons x l ih =>
      rw [List.flatMap_cons, List.length_append, hlen x (by simp), ih (fun y m => hlen y (by simp [m])), List.length_cons, Nat.add_mul, Nat.one_mul, Nat.add_comm]
  -- the block's base
  have hoff : cap ≠ 0 → ao < C.size := fun hc0 => by
    have key : ∀ (x : DataW H × List MemPlace), (W.cells? base ((⟨ab, ao, none⟩ : Addr).add (0 * P.cellsOf et)) (P.cellsOf et)).bind (DataW.trod enc P W base (fun _ => true) held n et) = some x → ao < C.size := fun x hx => by
      rw [Option.bind_eq_some_iff] at hx
      obtain ⟨cs, hc, _⟩ := hx
      have q := (cells?_get hc).2 0 (by omega)
      have q1 := (cells?_get hc).1
      have : ((⟨ab, ao, none⟩ : Addr).add (0 * P.cellsOf et)).add 0 = (⟨ab, ao, none⟩ : Addr).add 0 := by rw [Nat.zero_mul, add_eq, add_eq]
      rw [this, celln] at q
      have : ∃ v, cs[0]? = some v := ⟨_, List.getElem?_eq_getElem (by omega)⟩
      obtain ⟨v, hv⟩ := this
      rw [hv] at q
      have := (Array.getElem?_eq_some_iff.1 q).1
      omega
    by_cases hl0 : 0 < len
    · exact key _ ((h1 0 hl0).trans (List.getElem?_eq_getElem (by omega)))
    · have : len = 0 := by omega
      subst this
      have := h2.2 0 (by omega)
      rw [Nat.zero_add] at this
      exact key _ (this.trans (List.getElem?_eq_getElem (by omega)))
  have hb : ∃ b, (cap ≠ 0 → b = ao) ∧ b + len * e.size ≤ C.size ∧ (len ≠ 0 → b = ao) := by
    by_cases hc0 : cap = 0
    · have : len = 0 := by omega
      exact ⟨0, fun h => absurd hc0 h, by simp [this], fun h => absurd this h⟩
    · refine ⟨ao, fun _ => rfl, ?_, fun _ => rfl⟩
      by_cases hl0 : len = 0
      · have := hoff hc0; rw [hl0]; omega
      · obtain ⟨v, hv⟩ : ∃ v, l[len - 1]? = some v := ⟨_, List.getElem?_eq_getElem (by omega)⟩
        have q := (hl _ v hv).1 (e.size - 1) (by omega)
        have hcl := Sh.cells_len e hflat v
        rw [List.getElem?_eq_getElem (by omega)] at q
        have := (Array.getElem?_eq_some_iff.1 q).1
        have : len * e.size = (len - 1) * e.size + e.size := by
          obtain ⟨m, rfl⟩ : ∃ m, len = m + 1 := ⟨len - 1, by omega⟩
          simp [Nat.add_mul]
        omega
  obtain ⟨b, hb1, hb2, hb3⟩ := hb
  have hblk : ab < W.heap.size := (Array.getElem?_eq_some_iff.1 hC).1
  have hnew : (locs ++ [⟨ab, b, C.size⟩])[objs.length]? = some (⟨ab, b, C.size⟩ : Loc) := by rw [hol]; simp
  refine ⟨[.cells (l.flatMap e.cells) true], [⟨ab, b, C.size⟩], [.slice (some ⟨objs.length, 0, none⟩) len cap], l, rfl, by simp, by simp [hblk], ⟨by omega, fun x hx => ?_⟩, .inr ⟨objs.length, cap, by rw [hll], by omega, hcm, ?_⟩, ?_, ?_⟩
  · obtain ⟨i, hi⟩ := List.getElem?_of_mem hx
    exact (hl i x hi).2
  · rw [heapOf_get]; simp
  · refine LRel.cons ?_ (LRel.nil _)
    exact VRel.slice objs.length 0 len cap ao ⟨ab, b, C.size⟩ hnew hlc (fun hc0 => by have := hb1 hc0; simp only at this ⊢; omega)
  · intro i lo o e1 e2
    have hi : i = 0 := by have := (List.getElem?_eq_some_iff.1 e1).1; simp at this; omega
    subst hi
    simp only [List.getElem?_cons_zero, Option.some.injEq] at e1 e2
    subst e1 e2
    refine ⟨C, ty, fr, hC, by simp, rfl, by rw [hflen]; exact hb2, fun i v hv => ?_⟩
    have hi : i < len * e.size := by rw [← hflen]; exact (List.getElem?_eq_some_iff.1 hv).1
    rw [flatMap_get hpos l hlen i, Option.bind_eq_some_iff] at hv
    obtain ⟨x, hx, hv⟩ := hv
    have q := (hl _ x hx).1 (i % e.size) (Nat.mod_lt _ hpos)
    rw [hv] at q
    have hl0 : len ≠ 0 := by intro h; simp [h] at hi
    have hidx : ao + i / e.size * e.size + i % e.size = b + i := by
      rw [hb3 hl0, Nat.add_assoc, Nat.mul_comm, Nat.div_add_mod]
    rw [hidx] at q
    exact ⟨v, q, VRel.plain0_refl (List.all_eq_true.1 (Sh.cells_plain e x) v (List.mem_of_getElem? hv))⟩

/-- Data that is handed in lies in the heap. -/
theorem laid_read (d : Nat) (t : TypeId) (s : Sh) (hs : shOf P d t = some s) (fuel : Nat) (cs : List Value) (x : DataW H × List MemPlace) (ht : DataW.trod enc P W base (fun _ => true) held fuel t cs = some x) (hsol : Solid W cs) :
    ∀ objs locs, objs.length = locs.length → Laid W objs locs s cs := by
  refine read_good (Good := fun s cs => Solid W cs → ∀ objs locs, objs.length = locs.length → Laid W objs locs s cs) ⟨fun _ objs locs _ => Laid.flat (s := .unit) () trivial rfl rfl, fun {a b c1 c2} g1 g2 hsol objs locs hol => ?_⟩
    (fun k n hw _ objs locs _ => Laid.flat (s := .int k) n hw rfl rfl) (fun b _ objs locs _ => Laid.flat (s := .bool) b trivial rfl rfl) (fun b hw _ objs locs _ => Laid.flat (s := .str) b hw rfl rfl) (fun d e t cs s fuel x hu hse hsz hf hpos ht hsol objs locs hol => ?_) d t s hs fuel cs x ht hsol
  · exact Laid.pair hol (g1 hsol.left objs locs hol) (g2 hsol.right)
  · rcases DataW.trod_slice hu ht with ⟨rfl, _⟩ | ⟨a, len, cap, elems, rest, n, _, rfl, _, _, h1, h2, h3, h4, h5, _⟩
    · exact Laid.flat (s := .slice s) [] ⟨Nat.zero_le _, by simp⟩ (.inl ⟨rfl, rfl⟩) rfl
    · exact slice_laid hf hpos hsz (fun fuel cs x ht => flat_read d e s hse fuel cs x ht hf) h1 h2 h3 h4 (h5 rfl) hsol objs locs hol

/-! ### arguments -/

/-- The data of a list of arguments: a shape each, and whether it is a struct or an array. -/
@[reducible] def DenL : List (Sh × Bool) → Type
  | [] => Unit
  | (s, _) :: r => s.Den × DenL r

def RepV (h : Heap) (s : Sh) (agg : Bool) (v : s.Den) (av : Value) : Prop := ∃ cs, Rep h s v cs ∧ match agg with
  | true => av = .agg ⟨cs⟩
  | false => cs = [av]

def RepL (h : Heap) : (l : List (Sh × Bool)) → DenL l → List Value → Prop
  | [], _, avs => avs = []
  | (s, g) :: r, x, avs => ∃ a as, avs = a :: as ∧ s.wf x.1 ∧ RepV h s g x.1 a ∧ RepL h r x.2 as

theorem RepL.ext {h h1 : Heap} (e : Ext h h1) : ∀ {l : List (Sh × Bool)} {x : DenL l} {avs : List Value}, RepL h l x avs → RepL h1 l x avs
  | [], _, _, r => r
  | (s, g) :: r, x, avs, q => by
    obtain ⟨a, as, h1, h2, ⟨cs, h3, h4⟩, h5⟩ := q
    exact ⟨a, as, h1, h2, ⟨cs, h3.ext e, h4⟩, RepL.ext e h5⟩

def paramsOk (P : Program) (d : Nat) : List TypeId → List (Sh × Bool) → Prop
  | [], [] => True
  | t :: ts, (s, g) :: r => shOf P d t = some s ∧ aggOf P t = some g ∧ paramsOk P d ts r
  | _, _ => False

theorem okWide_solid {r : Reach} {b : Nat} {t : TypeId} {v : Value} (h : Value.okWide P W r b t v) : Solid W v.cells.toList := by
  have key : ∀ u a n c, Cell.okWide P W r b u (.slice (some a) n c) → a.spot = none ∧ ∃ C ty fr, W.heap[a.block]? = some (.cells C ty fr) := by
    intro u a n c hc
    have hh : ∃ e, W.has P r b a e c := by
      unfold Cell.okWide Cell.ok at hc
      cases hu : P.underlying u with
      | none => simp [hu] at hc
      | some d => cases d <;> simp [hu] at hc; exact ⟨_, hc.2.2⟩
    obtain ⟨e, _, h2, row, cells, h3, _⟩ := hh
    refine ⟨h2, ?_⟩
    unfold World.shape? at h3
    split at h3
    · rename_i C ty fr q; exact ⟨C, ty, fr, q⟩
    · cases h3
  have agg : ∀ cs : Array Value, Row.okWide P W r b t cs → Solid W cs.toList := by
    intro cs ⟨ts, _, _, hc⟩ a n c hm
    obtain ⟨i, hi⟩ := List.getElem?_of_mem hm
    obtain ⟨u, _, hcell⟩ := hc i _ (by simpa using hi)
    exact key u a n c hcell
  have one : Cell.okWide P W r b t v → Solid W v.cells.toList := by
    intro hc a n c hm
    cases v with
    | agg cs =>
      exfalso
      unfold Cell.okWide Cell.ok at hc
      cases hu : P.underlying t with
      | none => simp [hu] at hc
      | some d => cases d <;> simp [hu] at hc
    | slice a' n' c' =>
      simp only [Value.cells, List.mem_cons, List.not_mem_nil, or_false] at hm
      cases hm
      exact key t a n c hc
    | _ => simp [Value.cells] at hm
  unfold Value.okWide at h
  split at h
  · obtain ⟨cs, rfl, _, hr⟩ := h; exact agg cs hr
  · obtain ⟨cs, rfl, _, hr⟩ := h; exact agg cs hr
  · exact one h

theorem okWide_agg {r : Reach} {b : Nat} {t : TypeId} {v : Value} {g : Bool} (h : Value.okWide P W r b t v) (hg : aggOf P t = some g) : match g with
    | true => ∃ cs, v = .agg cs
    | false => v.cells = #[v] := by
  unfold aggOf at hg
  unfold Value.okWide at h
  have one : Cell.okWide P W r b t v → v.cells = #[v] := by
    intro hc
    cases v with
    | agg cs =>
      exfalso
      unfold Cell.okWide Cell.ok at hc
      cases hu : P.underlying t with
      | none => simp [hu] at hc
      | some d => cases d <;> simp [hu] at hc
    | _ => rfl
  split at hg
  · rename_i q; rw [q] at h; cases hg; obtain ⟨cs, e, _⟩ := h; exact ⟨cs, e⟩
  · rename_i q; rw [q] at h; cases hg; obtain ⟨cs, e, _⟩ := h; exact ⟨cs, e⟩
  · rename_i d q1 q2 q3
    cases hg
    split at h
    · rename_i q; exact absurd (Option.some.inj (q3.symm.trans q)) (q1 _)
    · rename_i q; exact absurd (Option.some.inj (q3.symm.trans q)) (q2 _ _)
    · exact one h
  · cases hg

/-- All arguments. -/
theorem args_laid {d b : Nat} {r : Reach} : ∀ (ts : List TypeId) (l : List (Sh × Bool)), paramsOk P d ts l → ∀ (vs : List Value) (ds : List (DataW H)) (p : List MemPlace), DataW.TrodAll enc P W base (fun _ => true) held ts vs ds p → (∀ (j : Nat) t v, ts[j]? = some t → vs[j]? = some v → Value.okWide P W r b t v) →
    ∀ (objs : List AObj) (locs : List Loc), objs.length = locs.length → ∃ (mo : List AObj) (ml : List Loc) (avs : List Value) (x : DenL l), mo.length = ml.length ∧ (∀ o ∈ mo, ∃ c, o = .cells c true) ∧ (∀ l ∈ ml, l.blk < W.heap.size) ∧ RepL (heapOf (objs ++ mo)) l x avs ∧
      LRel (fun g : Nat => (locs ++ ml)[g]?) avs vs ∧ ∀ (i : Nat) l o, ml[i]? = some l → mo[i]? = some o → ORel (fun g : Nat => (locs ++ ml)[g]?) l o W.heap[l.blk]?
  | [], [], _, vs, ds, p, hA, _, objs, locs, _ => by
    obtain ⟨rfl, _, _⟩ := trodAll_nil hA
    exact ⟨[], [], [], (), rfl, by simp, by simp, rfl, LRel.nil _, by simp⟩
  | [], _ :: _, h, _, _, _, _, _, _, _, _ => h.elim
  | _ :: _, [], h, _, _, _, _, _, _, _, _ => h.elim
  | t :: ts, (s, g) :: l, h, vs, ds, p, hA, hok, objs, locs, hol => by
    obtain ⟨h1, h2, h3⟩ := h
    obtain ⟨v, vs', d', ds', p1, p2, rfl, rfl, _, ⟨fuel, ht⟩, hA'⟩ := trodAll_cons hA
    have hv := hok 0 t v rfl rfl
    obtain ⟨mo, ml, acs, x, k1, k2, k3, k4, k5, k6, k7⟩ := laid_read d t s h1 fuel _ _ ht (okWide_solid hv) objs locs hol
    obtain ⟨mo', ml', avs, x', q1, q2, q3, q4, q5, q6⟩ := args_laid ts l h3 vs' ds' p2 hA' (fun j t v e1 e2 => hok (j + 1) t v (by simpa using e1) (by simpa using e2)) (objs ++ mo) (locs ++ ml) (by simp [hol, k1])
    have hag := okWide_agg hv h2
    obtain ⟨av, hav, hrel⟩ : ∃ av, (match g with | true => av = .agg ⟨acs⟩ | false => acs = [av]) ∧ VRel (fun g : Nat => (locs ++ ml)[g]?) av v := by
      cases g with
      | true =>
        obtain ⟨cs, rfl⟩ := hag
        have : ARel (fun g : Nat => (locs ++ ml)[g]?) ⟨acs⟩ cs := by rw [ARel.toList_iff]; exact k6
        refine ⟨.agg ⟨acs⟩, rfl, .agg _ _ this.1 this.2⟩
      | false =>
        have hc : v.cells = #[v] := hag
        rw [hc] at k6
        have hl := k6.1
        match acs, hl, k6 with
        | [a], _, k6 => exact ⟨a, rfl, by simpa using k6.2 0⟩
    refine ⟨mo ++ mo', ml ++ ml', av :: avs, (x, x'), by simp [k1, q1], ?_, ?_, ?_, ?_, ?_⟩
    · intro o ho
      rcases List.mem_append.1 ho with m | m
      · exact k2 o m
      · exact q2 o m
    · intro o ho
      rcases List.mem_append.1 ho with m | m
      · exact k3 o m
      · exact q3 o m
    · rw [← List.append_assoc]
      exact ⟨av, avs, rfl, k4, ⟨acs, k5.ext (heapOf_ext _ _), hav⟩, q4⟩
    · rw [← List.append_assoc]
      exact LRel.cons (hrel.mono (locs_ext _ _)) q5
    · rw [← List.append_assoc]
      intro i lo o e1 e2
      by_cases hi : i < ml.length
      · rw [List.getElem?_append_left hi] at e1
        rw [List.getElem?_append_left (by omega)] at e2
        exact (k7 i lo o e1 e2).mono (locs_ext _ _)
      · rw [List.getElem?_append_right (by omega)] at e1
        rw [List.getElem?_append_right (by omega), k1] at e2
        exact q6 _ lo o e1 e2
end
end Go.Abs
