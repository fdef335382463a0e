/-
  The package 'implies', its gate in memory: set, hidden, put.
-/
import Derived.Test.YtedefohdeignpaaDoorLogic3
import Derived.Test.YtedefohdeignpaaDoorAbsZ
namespace Go.Proofs.YtedefohdeignpaaDoor
open Go.Abs
set_option maxRecDepth 100000

theorem splice_set {cs : List Value} {off : Nat} {v : Value} (h : off < cs.length) : splice cs off [v] = cs.set off v := by
  unfold splice
  rw [List.set_eq_take_append_cons_drop, if_pos h]
  simp

theorem Upd.same {h : Heap} {g : Nat} {o : AObj} (e : h.get g = some o) : Upd h g o h := ⟨e, fun _ _ => rfl, rfl⟩

def setB (x y : Int) : Bool := if x == 2 then true else x == y
def setV (x y : Int) : Int := if x == 2 then y else x
def hiddenL (k o : Int) : Int := if invertsL k then notL o else o
def putL (k v : Int) : Int := if invertsL k then notL v else v

section
variable {h : Heap} {gg gi : Nat} {k o : Int} {l : List Int}

theorem set_ok {g off : Nat} {cs : List Value} {x y : Int} (hg : h.get g = some (.cells cs false)) (hx : cs[off]? = some (u8 x)) :
    ∃ h', CallD Tryd.prog NG 64 #[.pointer (some ⟨g, off, none⟩), u8 y] h (.bool (setB x y)) h' ∧ Upd h g (.cells (cs.set off (u8 (setV x y))) false) h' := by
  have hlt : off < cs.length := (List.getElem?_eq_some_iff.1 hx).1
  suffices q : ∃ v h', CallD Tryd.prog NG 64 #[.pointer (some ⟨g, off, none⟩), u8 y] h v h' ∧ (v = .bool (setB x y) ∧ Upd h g (.cells (cs.set off (u8 (setV x y))) false) h') by
    obtain ⟨v, h', q1, rfl, q2⟩ := q
    exact ⟨h', q1, q2⟩
  unfold setB setV
  refine fnG hM Tryd.func64 rfl (hP _ _ rfl Tryd.func64) (Nat.le_of_ble_eq_true rfl) ?_; ((conv => whnf); repeat ((first | refine CodeS.step ?_ | refine RegS.step ?_ | refine RegXS.step ?_); (conv => whnf)))
  refine ⟨_, loadK rfl hg rfl hx, ?_⟩
  ((conv => whnf); repeat ((first | refine CodeS.step ?_ | refine RegS.step ?_ | refine RegXS.step ?_); (conv => whnf)))
  refine ⟨_, rfl, fun hc => ?_, fun hc => ?_⟩
  · rw [hc]
    ((conv => whnf); repeat ((first | refine CodeS.step ?_ | refine RegS.step ?_ | refine RegXS.step ?_); (conv => whnf)))
    refine storeK rfl hg rfl rfl rfl (by show off + 1 ≤ cs.length; omega) rfl fun h1 u1 => ?_
    ((conv => whnf); repeat ((first | refine CodeS.step ?_ | refine RegS.step ?_ | refine RegXS.step ?_); (conv => whnf)))
    have e1 : (splice cs off [u8 y])[off]? = some (u8 y) := by rw [splice_set hlt, List.getElem?_set_self hlt]
    refine ⟨_, loadK rfl u1.get rfl e1, ?_⟩
    ((conv => whnf); repeat ((first | refine CodeS.step ?_ | refine RegS.step ?_ | refine RegXS.step ?_); (conv => whnf)))
    refine ⟨?_, ?_⟩
    · show Value.bool (y == y) = Value.bool true
      rw [beq_self_eq_true]
    · rw [← splice_set hlt]
      exact u1
  · rw [hc]
    ((conv => whnf); repeat ((first | refine CodeS.step ?_ | refine RegS.step ?_ | refine RegXS.step ?_); (conv => whnf)))
    refine ⟨_, loadK rfl hg rfl hx, ?_⟩
    ((conv => whnf); repeat ((first | refine CodeS.step ?_ | refine RegS.step ?_ | refine RegXS.step ?_); (conv => whnf)))
    refine ⟨rfl, ?_⟩
    have e1 : cs.set off (u8 x) = cs := by
      apply List.ext_getElem?
      intro i
      rw [List.getElem?_set]
      split
      · rename_i q; subst q; first | rw [hx] | rw [if_pos hlt, hx]
      · rfl
    show Upd h g (.cells (cs.set off (u8 x)) false) h
    rw [e1]
    exact Upd.same hg

theorem flatC_vals : ∀ l : List Int, flatC (vals l) = vals l
  | [] => rfl
  | x :: l => by
    have := flatC_vals l
    unfold flatC vals at this ⊢
    simp only [List.map_cons, List.flatMap_cons, this]
    rfl

/-- A gate in memory: its own cells, and those of its inputs. -/
structure GateAt (h : Heap) (gg gi : Nat) (k o : Int) (l : List Int) : Prop where
  g : h.get gg = some (.cells [u8 k, u8 o, .slice (some ⟨gi, 0, none⟩) l.length l.length] false)
  i : h.get gi = some (.cells (vals l) false)
  ne : gg ≠ gi

/-- Nothing old is changed but the gate. -/
structure GStep (h h' : Heap) (gg gi : Nat) : Prop where
  size : h.size ≤ h'.size
  other : ∀ g, g < h.size → g ≠ gg → g ≠ gi → h'.get g = h.get g

theorem GStep.refl (h : Heap) (gg gi : Nat) : GStep h h gg gi := ⟨Nat.le_refl _, fun _ _ _ _ => rfl⟩
theorem GStep.trans {h1 h2 : Heap} (a : GStep h h1 gg gi) (b : GStep h1 h2 gg gi) : GStep h h2 gg gi :=
  ⟨Nat.le_trans a.size b.size, fun g h1 h2 h3 => by rw [b.other g (Nat.lt_of_lt_of_le h1 a.size) h2 h3, a.other g h1 h2 h3]⟩
theorem GStep.of_ext {h1 : Heap} (e : Ext h h1) : GStep h h1 gg gi := ⟨e.1, fun g hg _ _ => e.2 g hg⟩
theorem GStep.get {h1 : Heap} (s : GStep h h1 gg gi) {g : Nat} {ob : AObj} (hg : h.get g = some ob) (h2 : g ≠ gg) (h3 : g ≠ gi) : h1.get g = some ob := by
  rw [s.other g (Heap.lt_of_get hg) h2 h3, hg]
theorem GateAt.ext {h1 : Heap} (G : GateAt h gg gi k o l) (e : Ext h h1) : GateAt h1 gg gi k o l := ⟨e.get G.g, e.get G.i, G.ne⟩
theorem GateAt.keep {h1 : Heap} (G : GateAt h gg gi k o l) {g : Nat} {ob : AObj} (u : Upd h g ob h1) (h2 : gg ≠ g) (h3 : gi ≠ g) : GateAt h1 gg gi k o l := ⟨u.keep h2 G.g, u.keep h3 G.i, G.ne⟩
theorem GateAt.out {h1 : Heap} {o1 : Int} (G : GateAt h gg gi k o l) (u : Upd h gg (.cells [u8 k, u8 o1, .slice (some ⟨gi, 0, none⟩) l.length l.length] false) h1) : GateAt h1 gg gi k o1 l ∧ GStep h h1 gg gi :=
  ⟨⟨u.get, u.keep (Ne.symm G.ne) G.i, G.ne⟩, ⟨Nat.le_of_eq u.size.symm, fun g _ h2 _ => u.other g h2⟩⟩
theorem GateAt.inp {h1 : Heap} {l1 : List Int} (G : GateAt h gg gi k o l) (hl : l1.length = l.length) (u : Upd h gi (.cells (vals l1) false) h1) : GateAt h1 gg gi k o l1 ∧ GStep h h1 gg gi :=
  ⟨⟨by rw [hl]; exact u.keep G.ne G.g, u.get, G.ne⟩, ⟨Nat.le_of_eq u.size.symm, fun g _ _ h3 => u.other g h3⟩⟩
theorem GateAt.sl (G : GateAt h gg gi k o l) : Sl h 1 (.slice (some ⟨gi, 0, none⟩) l.length l.length) (vals l) := by
  have : (vals l).length = l.length := by simp [vals]
  refine Sl.of_flat G.i (by intro e he; simp only [vals, List.mem_map] at he; obtain ⟨x, _, rfl⟩ := he; rfl) this.symm (by omega) (r := []) ?_
  rw [List.append_nil, flatC_vals]

theorem hidden_ok (hk : 0 ≤ k) (ho : 0 ≤ o) (G : GateAt h gg gi k o l) :
    CallD Tryd.prog NG 70 #[.pointer (some ⟨gg, 0, none⟩)] h (u8 (hiddenL k o)) h := by
  unfold hiddenL
  refine fnP hM Tryd.func70 rfl (hP _ _ rfl Tryd.func70) (Nat.le_of_ble_eq_true rfl) (by kernel_rfl) ?_; ((conv => whnf); repeat ((first | refine CodeS.step ?_ | refine RegS.step ?_ | refine RegXS.step ?_); (conv => whnf)))
  refine ⟨_, loadK rfl G.g rfl rfl, ?_⟩; ((conv => whnf); repeat ((first | refine CodeS.step ?_ | refine RegS.step ?_ | refine RegXS.step ?_); (conv => whnf)))
  refine ⟨_, _, inverts_ok hk, ?_⟩; ((conv => whnf); repeat ((first | refine CodeS.step ?_ | refine RegS.step ?_ | refine RegXS.step ?_); (conv => whnf)))
  refine ⟨_, rfl, fun hc => ?_, fun hc => ?_⟩
  · rw [hc]
    ((conv => whnf); repeat ((first | refine CodeS.step ?_ | refine RegS.step ?_ | refine RegXS.step ?_); (conv => whnf)))
    refine ⟨_, loadK rfl G.g rfl rfl, ?_⟩; ((conv => whnf); repeat ((first | refine CodeS.step ?_ | refine RegS.step ?_ | refine RegXS.step ?_); (conv => whnf)))
    refine ⟨_, _, not_ok ho, ?_⟩; ((conv => whnf); repeat ((first | refine CodeS.step ?_ | refine RegS.step ?_ | refine RegXS.step ?_); (conv => whnf)))
    exact ⟨rfl, Ext.refl _⟩
  · rw [hc]
    ((conv => whnf); repeat ((first | refine CodeS.step ?_ | refine RegS.step ?_ | refine RegXS.step ?_); (conv => whnf)))
    refine ⟨_, loadK rfl G.g rfl rfl, ?_⟩; ((conv => whnf); repeat ((first | refine CodeS.step ?_ | refine RegS.step ?_ | refine RegXS.step ?_); (conv => whnf)))
    exact ⟨rfl, Ext.refl _⟩

theorem put_ok {v : Int} (hk : 0 ≤ k) (hv : 0 ≤ v) (G : GateAt h gg gi k o l) :
    ∃ h', CallD Tryd.prog NG 71 #[.pointer (some ⟨gg, 0, none⟩), u8 v] h (.bool (setB o (putL k v))) h' ∧ GateAt h' gg gi k (setV o (putL k v)) l ∧ GStep h h' gg gi := by
  suffices q : ∃ r h', CallD Tryd.prog NG 71 #[.pointer (some ⟨gg, 0, none⟩), u8 v] h r h' ∧ (r = .bool (setB o (putL k v)) ∧ GateAt h' gg gi k (setV o (putL k v)) l ∧ GStep h h' gg gi) by
    obtain ⟨r, h', q1, rfl, q2⟩ := q
    exact ⟨h', q1, q2⟩
  unfold putL
  refine fnG hM Tryd.func71 rfl (hP _ _ rfl Tryd.func71) (Nat.le_of_ble_eq_true rfl) ?_; ((conv => whnf); repeat ((first | refine CodeS.step ?_ | refine RegS.step ?_ | refine RegXS.step ?_); (conv => whnf)))
  refine ⟨_, loadK rfl G.g rfl rfl, ?_⟩; ((conv => whnf); repeat ((first | refine CodeS.step ?_ | refine RegS.step ?_ | refine RegXS.step ?_); (conv => whnf)))
  refine ⟨_, _, inverts_ok hk, ?_⟩; ((conv => whnf); repeat ((first | refine CodeS.step ?_ | refine RegS.step ?_ | refine RegXS.step ?_); (conv => whnf)))
  refine ⟨_, rfl, fun hc => ?_, fun hc => ?_⟩
  · rw [hc]
    ((conv => whnf); repeat ((first | refine CodeS.step ?_ | refine RegS.step ?_ | refine RegXS.step ?_); (conv => whnf)))
    refine ⟨_, _, not_ok hv, ?_⟩; ((conv => whnf); repeat ((first | refine CodeS.step ?_ | refine RegS.step ?_ | refine RegXS.step ?_); (conv => whnf)))
    obtain ⟨h1, c1, u1⟩ := set_ok (off := 1) (y := notL v) G.g rfl
    refine ⟨_, h1, c1, ?_⟩
    ((conv => whnf); repeat ((first | refine CodeS.step ?_ | refine RegS.step ?_ | refine RegXS.step ?_); (conv => whnf)))
    exact ⟨rfl, (G.out u1).1, (G.out u1).2⟩
  · rw [hc]
    ((conv => whnf); repeat ((first | refine CodeS.step ?_ | refine RegS.step ?_ | refine RegXS.step ?_); (conv => whnf)))
    obtain ⟨h1, c1, u1⟩ := set_ok (off := 1) (y := v) G.g rfl
    refine ⟨_, h1, c1, ?_⟩
    ((conv => whnf); repeat ((first | refine CodeS.step ?_ | refine RegS.step ?_ | refine RegXS.step ?_); (conv => whnf)))
    exact ⟨rfl, (G.out u1).1, (G.out u1).2⟩
end
end Go.Proofs.YtedefohdeignpaaDoor
