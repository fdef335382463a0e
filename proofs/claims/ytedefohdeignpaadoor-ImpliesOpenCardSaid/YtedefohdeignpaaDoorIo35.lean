/-
  Gate1, Gate4, Gate7, Lives24, Fl1, Circ1, Man1: parts of the proof.
-/
import Derived.Test.YtedefohdeignpaaDoorIo34
namespace Go.Proofs.YtedefohdeignpaaDoor
open Go.Abs
set_option maxRecDepth 100000
theorem splice_set {cs : List Value} {off : Nat} {v : Value} (h : off < cs.length) : splice cs off [v] = cs.set off v := by
  unfold splice
  rw [List.set_eq_take_append_cons_drop, if_pos h]
  simp
theorem Upd.same {h : Heap} {g : Nat} {o : AObj} (e : h.get g = some o) : Upd h g o h := ⟨e, fun _ _ => rfl, rfl⟩
section
variable {h : Heap} {gg gi : Nat} {k o : Int} {l : List Int}
/-- A gate in memory: its own cells, and those of its inputs. -/
structure GateAt (h : Heap) (gg gi : Nat) (k o : Int) (l : List Int) : Prop where
  g : h.get gg = some (.cells [u8 k, u8 o, .slice (some ⟨gi, 0, none⟩) l.length l.length] false)
  i : h.get gi = some (.cells (vals l) false)
  ne : gg ≠ gi
/-- Nothing old is changed but the gate. -/
structure GStep (h h' : Heap) (gg gi : Nat) : Prop where
  size : h.size ≤ h'.size
  other : ∀ g, g < h.size → g ≠ gg → g ≠ gi → h'.get g = h.get g
theorem GStep.refl (h : Heap) (gg gi : Nat) : GStep h h gg gi := ⟨Nat.le_refl _, fun _ _ _ _ => rfl⟩
theorem GStep.trans {h1 h2 : Heap} (a : GStep h h1 gg gi) (b : GStep h1 h2 gg gi) : GStep h h2 gg gi :=
  ⟨Nat.le_trans a.size b.size, fun g h1 h2 h3 => by rw [b.other g (Nat.lt_of_lt_of_le h1 a.size) h2 h3, a.other g h1 h2 h3]⟩
theorem GStep.get {h1 : Heap} (s : GStep h h1 gg gi) {g : Nat} {ob : AObj} (hg : h.get g = some ob) (h2 : g ≠ gg) (h3 : g ≠ gi) : h1.get g = some ob := by
  rw [s.other g (Heap.lt_of_get hg) h2 h3, hg]
theorem GateAt.ext {h1 : Heap} (G : GateAt h gg gi k o l) (e : Ext h h1) : GateAt h1 gg gi k o l := ⟨e.get G.g, e.get G.i, G.ne⟩
theorem GateAt.keep {h1 : Heap} (G : GateAt h gg gi k o l) {g : Nat} {ob : AObj} (u : Upd h g ob h1) (h2 : gg ≠ g) (h3 : gi ≠ g) : GateAt h1 gg gi k o l := ⟨u.keep h2 G.g, u.keep h3 G.i, G.ne⟩
theorem GateAt.out {h1 : Heap} {o1 : Int} (G : GateAt h gg gi k o l) (u : Upd h gg (.cells [u8 k, u8 o1, .slice (some ⟨gi, 0, none⟩) l.length l.length] false) h1) : GateAt h1 gg gi k o1 l ∧ GStep h h1 gg gi :=
  ⟨⟨u.get, u.keep (Ne.symm G.ne) G.i, G.ne⟩, ⟨Nat.le_of_eq u.size.symm, fun g _ h2 _ => u.other g h2⟩⟩
theorem GateAt.inp {h1 : Heap} {l1 : List Int} (G : GateAt h gg gi k o l) (hl : l1.length = l.length) (u : Upd h gi (.cells (vals l1) false) h1) : GateAt h1 gg gi k o l1 ∧ GStep h h1 gg gi :=
  ⟨⟨by rw [hl]; exact u.keep G.ne G.g, u.get, G.ne⟩, ⟨Nat.le_of_eq u.size.symm, fun g _ _ h3 => u.other g h3⟩⟩
end
end Go.Proofs.YtedefohdeignpaaDoor

namespace Go.Proofs.YtedefohdeignpaaDoor
open Go.Abs
set_option maxRecDepth 100000
abbrev Seen := List Bool × List Bool
def mark (S : Seen) (v : Int) (j : Nat) : Seen := if v = 0 then (S.1.set j true, S.2) else (S.1, S.2.set j true)
def bools (l : List Bool) : List Value := l.map .bool
/-- The two rows of what was seen, as they stand now. -/
structure Marked (h h7 : Heap) (p q : Nat) (S : Seen) : Prop where
  size : h7.size = h.size
  other : ∀ g, g ≠ p → g ≠ q → h7.get g = h.get g
  p : h7.get p = some (.cells (bools S.1) false)
  q : h7.get q = some (.cells (bools S.2) false)
theorem bools_set {l : List Bool} {j : Nat} (hj : j < l.length) : splice (bools l) (0 + j * 1) [.bool true] = bools (l.set j true) := by
  rw [splice_set (by simp [bools]; omega), Nat.zero_add, Nat.mul_one]
  unfold bools
  rw [List.map_set]
theorem Marked.left {h h7 h8 : Heap} {p q : Nat} {S : Seen} {j : Nat} (M : Marked h h7 p q S) (hpq : p ≠ q) (hj : j < S.1.length) (u : Upd h7 p (.cells (splice (bools S.1) (0 + j * 1) [.bool true]) false) h8) : Marked h h8 p q (mark S 0 j) :=
  ⟨by rw [u.size, M.size], fun g h1 h2 => by rw [u.other g h1, M.other g h1 h2], by rw [u.get, bools_set hj]; rfl, by rw [u.other q (Ne.symm hpq), M.q]; rfl⟩
theorem Marked.right {h h7 h8 : Heap} {p q : Nat} {S : Seen} {j : Nat} (M : Marked h h7 p q S) (hpq : p ≠ q) (hj : j < S.2.length) (u : Upd h7 q (.cells (splice (bools S.2) (0 + j * 1) [.bool true]) false) h8) : Marked h h8 p q (mark S 1 j) :=
  ⟨by rw [u.size, M.size], fun g h1 h2 => by rw [u.other g h2, M.other g h1 h2], by rw [u.other p hpq, M.p]; rfl, by rw [u.get, bools_set hj]; rfl⟩
section
variable {h : Heap} {gg gi : Nat} {k o : Int} {l : List Int}
end
end Go.Proofs.YtedefohdeignpaaDoor

namespace Go.Proofs.YtedefohdeignpaaDoor
open Go.Abs
set_option maxRecDepth 100000
theorem u8_wide (n : Nat) (h : n < 256) : IntKind.i64.wrap (Int.ofNat n) = Int.ofNat n := IntWalk.i64_in _ (by simp only [Int.ofNat_eq_natCast]; omega)
end Go.Proofs.YtedefohdeignpaaDoor

namespace Go.Proofs.YtedefohdeignpaaDoor
open Go.Abs
set_option maxRecDepth 100000
theorem lives24 : isTrue (runFn Tryd.prog [] (orcExt Tryd.prog) 60 8 #[] (heapOf vars)) = true := by kernel_rfl
end Go.Proofs.YtedefohdeignpaaDoor

namespace Go.Proofs.YtedefohdeignpaaDoor
open Go.Abs
set_option maxRecDepth 100000
theorem fzVars : ∀ o ∈ vars, o.fz = o := by
  intro o m
  simp only [vars, List.mem_cons, List.not_mem_nil, or_false] at m
  rcases m with rfl | rfl <;> rfl
theorem hasVars {h : Heap} (b : HasB vars h) : Vars h := b 0 _ rfl
theorem hasSize {h : Heap} (b : HasB vars h) : NG ≤ h.size := Heap.lt_of_get (b 1 _ rfl)
/-- A contract over heaps, of plain values. -/
theorem fn_of {f : FuncId} {vs : Array Value} {r : Value} (hr : flatB r = true) (c : ∀ h, Vars h → CallD Tryd.prog NG f vs h r h) : FnV Tryd.prog NG vars f vs r := ⟨PureV.flatB hr, fun h b => c h (hasVars b)⟩
end Go.Proofs.YtedefohdeignpaaDoor

namespace Go.Proofs.YtedefohdeignpaaDoor
open Go.Abs
set_option maxRecDepth 100000
structure Node where
  kind : Nat
  ins : List Nat
  mem : Nat
  bit : Nat
structure Memo where
  addr : List Nat
  data : List Nat
  write : Nat
structure Circ where
  nodes : List Node
  names : List ByteArray
  mems : List Memo
  outs : List Nat
def encNode (x : Node) : Value := .agg ⟨[u8 (Int.ofNat x.kind), FL 1 (x.ins.map i64), i64 x.mem, i64 x.bit]⟩
def encMem (m : Memo) : Value := .agg ⟨[FL 1 (m.addr.map i64), FL 1 (m.data.map i64), i64 m.write]⟩
def encCirc (c : Circ) : Value := .agg ⟨[FL 4 (c.nodes.map encNode), FL 1 (c.names.map .string), FL 3 (c.mems.map encMem), FL 1 (c.outs.map i64)]⟩
theorem pure_nats (l : List Nat) : PureV (FL 1 (l.map i64)) := PureV.list fun _ => AllPure.cons (PureV.flat rfl) AllPure.nil
theorem pure_node (x : Node) : PureV (encNode x) := PureV.agg (AllPure.cons (PureV.flat rfl) (AllPure.cons (pure_nats _) (AllPure.cons (PureV.flat rfl) (AllPure.cons (PureV.flat rfl) AllPure.nil))))
theorem pure_nodeC (x : Node) : AllPure (cl (encNode x)) := AllPure.cons (PureV.flat rfl) (AllPure.cons (pure_nats _) (AllPure.cons (PureV.flat rfl) (AllPure.cons (PureV.flat rfl) AllPure.nil)))
theorem pure_memC (m : Memo) : AllPure (cl (encMem m)) := AllPure.cons (pure_nats _) (AllPure.cons (pure_nats _) (AllPure.cons (PureV.flat rfl) AllPure.nil))
theorem pure_circC (c : Circ) : AllPure (cl (encCirc c)) :=
  AllPure.cons (PureV.list pure_nodeC) (AllPure.cons (PureV.list fun _ => AllPure.cons (PureV.flat rfl) AllPure.nil) (AllPure.cons (PureV.list pure_memC) (AllPure.cons (pure_nats _) AllPure.nil)))
theorem pure_circ (c : Circ) : PureV (encCirc c) := PureV.agg (pure_circC c)
/-- A gate as plain data. -/
structure GData where
  kind : Nat
  a : Nat
  b : Nat
  d : Nat
/-- A circuit as plain data. -/
structure CData where
  inp : Nat
  dffs : Nat
  data0 : Nat
  data1 : Nat
  bus : Bool
  mem : Bool
  port0 : Nat
  port1 : Nat
  port2 : Nat
  port3 : Nat
  gates : List GData
  outs : List Nat
def encG (g : GData) : Value := .agg ⟨[u8 (Int.ofNat g.kind), u8 (Int.ofNat g.a), u8 (Int.ofNat g.b), u8 (Int.ofNat g.d)]⟩
def encC (x : CData) : Value := .agg ⟨[n8 x.inp, n8 x.dffs, n8 x.data0, n8 x.data1, .bool x.bus, .bool x.mem, n8 x.port0, n8 x.port1, n8 x.port2, n8 x.port3, FL 4 (x.gates.map encG), FL 1 (x.outs.map n8)]⟩
structure GOk (g : GData) : Prop where
  kind : g.kind < 256
  a : g.a < 256
  b : g.b < 256
  d : g.d < 256
structure COk (x : CData) : Prop where
  inp : x.inp < 256
  dffs : x.dffs < 256
  data0 : x.data0 < 256
  data1 : x.data1 < 256
  port0 : x.port0 < 256
  port1 : x.port1 < 256
  port2 : x.port2 < 256
  port3 : x.port3 < 256
  gates : ∀ g ∈ x.gates, GOk g
  outs : ∀ o ∈ x.outs, o < 256
  gatesLen : x.gates.length < 2 ^ 62
  outsLen : x.outs.length < 2 ^ 62
end Go.Proofs.YtedefohdeignpaaDoor

namespace Go.Proofs.YtedefohdeignpaaDoor
open Go.Abs
set_option maxRecDepth 100000
def loN (k : Nat) : Nat := (loL (Int.ofNat k)).toNat
def hiZ (k : Nat) : Int := hiL (Int.ofNat k)
theorem loN_eq (k : Nat) : Int.ofNat (loN k) = loL (Int.ofNat k) := by
  unfold loN
  have : 0 ≤ loL (Int.ofNat k) := by
    rcases kinds (k := Int.ofNat k) (Int.natCast_nonneg k) with h | h | h | h | h | h | h | h | h | h | h | h | h | h | h | h | ⟨n, h⟩ <;> rw [h]
    iterate 16 decide
    rw [loL_big]; decide
  exact Int.toNat_of_nonneg this
def logic_Fanin_wp (k : Nat) (K : Nat × Int → Prop) : Prop := k < 256 ∧ K (loN k, hiZ k)
theorem logic_Fanin_walk {k : Nat} {K : Nat × Int → Prop} (hm : logic_Fanin_wp k K) {h0 : Heap} (hB : HasB vars h0) : ∃ r, K r ∧ CallD Tryd.prog NG 18 ⟨[n8 k]⟩ h0 ((fun r => Value.tuple ⟨[i64 r.1, z64 r.2]⟩) r) h0 := by
  refine ⟨_, hm.2, ?_⟩
  have := fanin_ok (k := Int.ofNat k) (Int.natCast_nonneg k) (by have := hm.1; simp only [Int.ofNat_eq_natCast]; omega) (hasVars hB)
  rw [← loN_eq] at this
  exact this
structure Ln where
  node : Nat
  pin : Nat
def encLn (x : Ln) : Value := .agg ⟨[i64 x.node, i64 x.pin]⟩
theorem pure_lnC (x : Ln) : AllPure (cl (encLn x)) := AllPure.cons (PureV.flat rfl) (AllPure.cons (PureV.flat rfl) AllPure.nil)
/-- The names of a circuit are fine (what this asks of them is shown elsewhere). -/
def NamesOk (c : Circ) : Prop := FnV Tryd.prog NG vars 74 ⟨[encCirc c]⟩ (i64 0)
def netlists_names_wp (c : Circ) (K : Nat → Prop) : Prop := NamesOk c ∧ K 0
theorem netlists_names_walk {c : Circ} {K : Nat → Prop} (hm : netlists_names_wp c K) {h0 : Heap} (hB : HasB vars h0) : ∃ r, K r ∧ CallD Tryd.prog NG 74 ⟨[encCirc c]⟩ h0 (i64 r) h0 := FnV.walk hm.1 hm.2 hB
/-- The pins of a node that read net n. -/
def fanNode (n i : Nat) (ins : List Nat) : List Ln := (ins.zipIdx.filter fun p => p.1 == n).map fun p => ⟨i, p.2⟩
/-- The pins that read each net. -/
def fanL (c : Circ) : List (List Ln) := (List.range c.nodes.length).map fun n => c.nodes.zipIdx.flatMap fun p => fanNode n p.2 p.1.ins
def FanOk (c : Circ) : Prop := FnV Tryd.prog NG vars 41 ⟨[encCirc c]⟩ (encL 1 (encL 2 encLn) (fanL c))
def netlists_Fanout_wp (c : Circ) (K : List (List Ln) → Prop) : Prop := FanOk c ∧ K (fanL c)
theorem netlists_Fanout_walk {c : Circ} {K : List (List Ln) → Prop} (hm : netlists_Fanout_wp c K) {h0 : Heap} (hB : HasB vars h0) : ∃ r, K r ∧ CallD Tryd.prog NG 41 ⟨[encCirc c]⟩ h0 ((encL 1 (encL 2 encLn)) r) h0 := FnV.walk hm.1 hm.2 hB
/-- A name that is one. -/
def IsNm (s : ByteArray) : Prop := FnV Tryd.prog NG vars 83 ⟨[.string s]⟩ (.bool true)
def netlists_IsName_wp (s : ByteArray) (K : Bool → Prop) : Prop := IsNm s ∧ K true
theorem netlists_IsName_walk {s : ByteArray} {K : Bool → Prop} (hm : netlists_IsName_wp s K) {h0 : Heap} (hB : HasB vars h0) : ∃ r, K r ∧ CallD Tryd.prog NG 83 ⟨[Value.string s]⟩ h0 (Value.bool r) h0 := FnV.walk (enc := Value.bool) hm.1 hm.2 hB
end Go.Proofs.YtedefohdeignpaaDoor
