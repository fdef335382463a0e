/-
  Circ3, Circ4, Gate8, Man2, P6: parts of the proof.
-/
import Derived.Test.YtedefohdeignpaaDoorIo41
namespace Go.Proofs.YtedefohdeignpaaDoor
open Go.Abs
set_option maxRecDepth 100000
def nameB (i : Nat) : ByteArray := ⟨#[110, UInt8.ofNat (48 + i / 10), UInt8.ofNat (48 + i % 10)]⟩
theorem names_run : ([0, 1, 2, 3, 4, 5, 6, 7, 8, 9, 10, 11, 12, 13, 14, 15].all fun i => match runAt bare 36 #[.int .i64 (Int.ofNat i)] with
  | some (.string s) => decide (s = nameB i)
  | _ => false) = true := by kernel_rfl
theorem name_fn {i : Nat} (hi : i < 16) : FnV Tryd.prog NG vars 36 #[i64 i] (.string (nameB i)) := by
  refine fn_of rfl fun h _ => ?_
  have hm : i ∈ [0, 1, 2, 3, 4, 5, 6, 7, 8, 9, 10, 11, 12, 13, 14, 15] := by
    have : i = 0 ∨ i = 1 ∨ i = 2 ∨ i = 3 ∨ i = 4 ∨ i = 5 ∨ i = 6 ∨ i = 7 ∨ i = 8 ∨ i = 9 ∨ i = 10 ∨ i = 11 ∨ i = 12 ∨ i = 13 ∨ i = 14 ∨ i = 15 := by omega
    simpa using this
  have := List.all_eq_true.1 names_run i hm
  split at this
  · rename_i s hs
    rw [of_decide_eq_true this] at hs
    exact of_bare hs (by kernel_rfl) rfl
  · cases this
end Go.Proofs.YtedefohdeignpaaDoor

namespace Go.Proofs.YtedefohdeignpaaDoor
open Go.Abs
set_option maxRecDepth 100000
def inputN : Node := ⟨0, [], 0, 0⟩
def dffN (d : Nat) : Node := ⟨14, [d], 0, 0⟩
def memN (b : Nat) : Node := ⟨15, [], 0, b⟩
/-- The nodes ahead of the gates. -/
def baseN (inp dffs : Nat) (mem : Bool) : List Node := List.replicate (inp % 4 + 1) inputN ++ List.replicate (dffs % 3) (dffN 0) ++ (if mem then [memN 0, memN 1] else [])
def gatesN (bus : Bool) (gs : List GData) (base : List Node) : Nat → List Node
  | 0 => base
  | i + 1 => match gs[i]? with
    | some g => gatesN bus gs base i ++ [gateK bus g ((gatesN bus gs base i).map Node.kind)]
    | none => gatesN bus gs base i
def rawN (x : CData) : List Node := gatesN x.bus x.gates (baseN x.inp x.dffs x.mem) (min x.gates.length 8)
/-- The nets that the flip-flops read are written last. -/
def updN (first : Nat) (d : Nat → Nat) : Nat → List Node → List Node
  | 0, ns => ns
  | i + 1, ns => (updN first d i ns).set (first + i) (dffN (d i))
def dataN (x : CData) (n j : Nat) : Nat := (if j = 0 then x.data0 else x.data1) % n
def circN (x : CData) : Circ :=
  let n := (rawN x).length
  ⟨updN (x.inp % 4 + 1) (dataN x n) (x.dffs % 3) (rawN x), (List.range n).map nameB, if x.mem then [⟨[x.port0 % n], [x.port1 % n, x.port2 % n], x.port3 % n⟩] else [], (x.outs.take 3).map (· % n) ++ [n - 1]⟩
theorem encNode_four : ∀ (l : List Node), ∀ e ∈ l.map encNode, (cl e).length = 4 := by
  intro l e m
  obtain ⟨a, _, rfl⟩ := List.mem_map.1 m
  rfl
theorem kind_cell {l : List Node} {i : Nat} (hi : i < l.length) : (flatC (l.map encNode))[0 + i * 4]? = some (n8 ((l.map Node.kind).getD i 0)) := by
  have hu : (l.map encNode)[i]? = some (encNode l[i]) := by rw [List.getElem?_map, List.getElem?_eq_getElem hi]; rfl
  have := flatC_at (encNode_four l) hu (i := 0) (by decide)
  rw [Nat.add_zero] at this
  rw [Nat.zero_add, this, List.getD, List.getElem?_map, List.getElem?_eq_getElem hi]
  rfl
theorem baseN_length (inp dffs : Nat) (mem : Bool) : (baseN inp dffs mem).length = inp % 4 + 1 + dffs % 3 + (if mem then 2 else 0) := by
  unfold baseN
  cases mem <;> simp <;> omega
theorem gatesN_length (bus : Bool) (gs : List GData) (base : List Node) : ∀ i, i ≤ gs.length → (gatesN bus gs base i).length = base.length + i
  | 0, _ => rfl
  | i + 1, h => by
    have hg : gs[i]? = some gs[i] := List.getElem?_eq_getElem (by omega)
    simp only [gatesN, hg, List.length_append, gatesN_length bus gs base i (by omega), List.length_singleton]
    omega
theorem gatesN_succ {bus : Bool} {gs : List GData} {base : List Node} {i : Nat} {g : GData} (hg : gs[i]? = some g) : gatesN bus gs base (i + 1) = gatesN bus gs base i ++ [gateK bus g ((gatesN bus gs base i).map Node.kind)] := by
  simp only [gatesN, hg]
theorem gatesN_get (bus : Bool) (gs : List GData) (base : List Node) {j : Nat} (hj : j < base.length) : ∀ i, i ≤ gs.length → (gatesN bus gs base i)[j]? = base[j]?
  | 0, _ => rfl
  | i + 1, h => by
    have hg : gs[i]? = some gs[i] := List.getElem?_eq_getElem (by omega)
    rw [gatesN_succ hg, List.getElem?_append_left (by rw [gatesN_length _ _ _ _ (by omega)]; omega)]
    exact gatesN_get bus gs base hj i (by omega)
theorem rawN_length (x : CData) : (rawN x).length = x.inp % 4 + 1 + x.dffs % 3 + (if x.mem then 2 else 0) + min x.gates.length 8 := by
  unfold rawN
  rw [gatesN_length _ _ _ _ (Nat.min_le_left _ _), baseN_length]
theorem baseN_dff {inp dffs : Nat} {mem : Bool} {i : Nat} (hi : i < dffs % 3) : (baseN inp dffs mem)[inp % 4 + 1 + i]? = some (dffN 0) := by
  unfold baseN
  rw [List.append_assoc, List.getElem?_append_right (by simp), List.length_replicate, List.getElem?_append_left (by simp; omega), List.getElem?_replicate, if_pos (by omega)]
theorem rawN_dff {x : CData} {i : Nat} (hi : i < x.dffs % 3) : (rawN x)[x.inp % 4 + 1 + i]? = some (dffN 0) := by
  unfold rawN
  rw [gatesN_get _ _ _ (by rw [baseN_length]; split <;> omega) _ (Nat.min_le_left _ _)]
  exact baseN_dff hi
/-- Lists of values, cell by cell. -/
inductive PL (h : Heap) : List Value → List Value → Prop
  | nil : PL h [] []
  | cons {a b : Value} {l m : List Value} : LLe h (cl a) (cl b) → PL h l m → PL h (a :: l) (b :: m)
theorem PL.refl (h : Heap) : ∀ l : List Value, PL h l l
  | [] => .nil
  | _a :: l => .cons (LLe.refl h _) (PL.refl h l)
theorem PL.set {h : Heap} {l m : List Value} (p : PL h l m) {a b : Value} (ab : LLe h (cl a) (cl b)) : ∀ i, PL h (l.set i a) (m.set i b) := by
  induction p with
  | nil => intro i; exact .nil
  | cons e _ ih =>
    intro i
    cases i with
    | zero => exact .cons ab ‹_›
    | succ i => exact .cons e (ih i)
theorem LLe.app {h : Heap} : ∀ {a b : List Value} {c d : List Value}, LLe h a b → LLe h c d → LLe h (a ++ c) (b ++ d)
  | [], [], _, _, _, q => q
  | [], _ :: _, _, _, p, _ => by have := p.1; simp at this
  | _ :: _, [], _, _, p, _ => by have := p.1; simp at this
  | x :: a, y :: b, c, d, p, q => by
    have h0 := p.get (i := 0) (x := x) (y := y) rfl rfl
    have h1 : LLe h a b := ⟨by have := p.1; simpa using this, fun i => by have := p.2 (i + 1); simpa using this⟩
    exact LLe.cons h0 (LLe.app h1 q)
theorem PL.flat {h : Heap} {l m : List Value} (p : PL h l m) : LLe h (flatC l) (flatC m) := by
  induction p with
  | nil => exact LLe.refl _ _
  | cons e _ ih => rw [flatC_cons, flatC_cons]; exact LLe.app e ih
/-- A gate, over the nodes so far. -/
theorem gate_at {x : CData} {g : GData} (hg : GOk g) {N : List Node} (hn : 0 < N.length) (hn2 : N.length ≤ 1000) {gn : Nat} {sp : Option Nat} {cap : Nat} {ro : Bool} {h0 : Heap} (hB : HasB vars h0) (hgn : h0.get gn = some (.cells (flatC (N.map encNode)) ro)) :
    CallD Tryd.prog NG 35 #[encC x, encG g, .slice (some ⟨gn, 0, sp⟩) (N.map encNode).length cap] h0 (encNode (gateK x.bus g (N.map Node.kind))) h0 := by
  have := gate_ok' (x := x) hg (ks := N.map Node.kind) (by rw [List.length_map]; exact hn) (by rw [List.length_map]; exact hn2) (sp := sp) (cap := cap) hB hgn fun i hi => kind_cell (by rw [List.length_map] at hi; exact hi)
  rw [List.length_map] at this
  rw [List.length_map]
  exact this
end Go.Proofs.YtedefohdeignpaaDoor

namespace Go.Proofs.YtedefohdeignpaaDoor
open Go.Abs
set_option maxRecDepth 100000
theorem lives_fn : FnV Tryd.prog NG vars 8 #[] (.bool true) := by
  obtain ⟨h', e⟩ := isTrue_iff lives24
  have c := (runFn_sound hM hP (fun f vs h v e => orcExt_sound f vs h v e) 60 _ _ _ _ _ e).1
  refine ⟨PureV.flatB rfl, fun h b => c.lift (by simp) rfl (bears_vars (hasSize b) (hasVars b))⟩
end Go.Proofs.YtedefohdeignpaaDoor

namespace Go.Proofs.YtedefohdeignpaaDoor
open Go.Abs
set_option maxRecDepth 100000
def law03_name_wp (i : Nat) (K : ByteArray → Prop) : Prop := i < 16 ∧ K (nameB i)
theorem law03_name_walk {i : Nat} {K : ByteArray → Prop} (hm : law03_name_wp i K) {h0 : Heap} (hB : HasB vars h0) : ∃ r, K r ∧ CallD Tryd.prog NG 36 ⟨[i64 i]⟩ h0 (Value.string r) h0 := FnV.walk (name_fn hm.1) hm.2 hB
def law24_lives_wp (K : Bool → Prop) : Prop := K true
theorem law24_lives_walk {K : Bool → Prop} (hm : law24_lives_wp K) {h0 : Heap} (hB : HasB vars h0) : ∃ r, K r ∧ CallD Tryd.prog NG 8 ⟨[]⟩ h0 (Value.bool r) h0 := FnV.walk (enc := Value.bool) lives_fn hm hB
structure Asg where
  net : Nat
  value : Nat
structure U2 where
  a : Nat
  b : Nat
end Go.Proofs.YtedefohdeignpaaDoor

namespace Go.Proofs.YtedefohdeignpaaDoor
open Go.Abs
set_option maxRecDepth 100000
def fanPre (c : Circ) (i x : Nat) : List Ln := (c.nodes.zipIdx.take i).flatMap fun p => fanNode x p.2 p.1.ins
theorem fanNode_snoc (x i : Nat) (l : List Nat) (a : Nat) : fanNode x i (l ++ [a]) = fanNode x i l ++ (if a = x then [⟨i, l.length⟩] else []) := by
  unfold fanNode
  rw [List.zipIdx_append, List.filter_append, List.map_append]
  congr 1
  by_cases c : a = x
  · simp [c]
  · simp [c]
theorem fanPre_succ {c : Circ} {i x : Nat} {y : Node} (hy : c.nodes[i]? = some y) : fanPre c (i + 1) x = fanPre c i x ++ fanNode x i y.ins := by
  have h : c.nodes.zipIdx[i]? = some (y, i) := by rw [List.getElem?_zipIdx, hy]; simp
  unfold fanPre
  obtain ⟨h1, h2⟩ := List.getElem?_eq_some_iff.1 h
  rw [List.take_succ_eq_append_getElem h1, h2, List.flatMap_append]
  simp
theorem fanNode_len (x i : Nat) (l : List Nat) : (fanNode x i l).length ≤ l.length := by
  unfold fanNode
  rw [List.length_map]
  refine Nat.le_trans (List.length_filter_le _ _) ?_
  simp
structure FanPre (c : Circ) : Prop where
  len : c.nodes.length ≤ 16
  ins : ∀ (i : Nat) (x : Node), c.nodes[i]? = some x → (∀ k ∈ x.ins, k < c.nodes.length) ∧ x.ins.length ≤ 16
theorem fanPre_len {c : Circ} (g : FanPre c) (x : Nat) : ∀ i, i ≤ c.nodes.length → (fanPre c i x).length ≤ i * 16
  | 0, _ => by simp [fanPre]
  | i + 1, h => by
    obtain ⟨y, hy⟩ := get_lt (l := c.nodes) (i := i) h
    rw [fanPre_succ hy, List.length_append]
    have := fanPre_len g x i (by omega)
    have := fanNode_len x i y.ins
    have := (g.ins i y hy).2
    omega
def rowsAt (c : Circ) (i t : Nat) (ins : List Nat) : List (List Ln) := (List.range c.nodes.length).map fun x => fanPre c i x ++ fanNode x i (ins.take t)
theorem rowsAt_get {c : Circ} {i t x : Nat} {ins : List Nat} (hx : x < c.nodes.length) : (rowsAt c i t ins)[x]? = some (fanPre c i x ++ fanNode x i (ins.take t)) := by
  unfold rowsAt
  rw [List.getElem?_map, List.getElem?_range hx]
  rfl
theorem rowsAt_step {c : Circ} {i t y : Nat} {ins : List Nat} (hy : ins[t]? = some y) : (rowsAt c i t ins).set y (fanPre c i y ++ fanNode y i (ins.take t) ++ [⟨i, t⟩]) = rowsAt c i (t + 1) ins := by
  have ht := lt_of_get hy
  obtain ⟨h1, h2⟩ := List.getElem?_eq_some_iff.1 hy
  have hs : ∀ x, fanNode x i (ins.take (t + 1)) = fanNode x i (ins.take t) ++ (if y = x then [⟨i, t⟩] else []) := fun x => by
    rw [List.take_succ_eq_append_getElem h1, h2, fanNode_snoc, List.length_take, Nat.min_eq_left (Nat.le_of_lt ht)]
  apply List.ext_getElem?
  intro x
  rw [List.getElem?_set]
  have hl : (rowsAt c i t ins).length = c.nodes.length := by unfold rowsAt; simp
  by_cases c1 : x < c.nodes.length
  · rw [rowsAt_get c1, rowsAt_get c1, hs x]
    by_cases e : y = x
    · subst e
      rw [if_pos rfl, if_pos (by omega), if_pos rfl, List.append_assoc]
    · rw [if_neg e, if_neg e, List.append_nil]
  · have hn : ∀ k, (rowsAt c i k ins)[x]? = none := fun k => by
      refine List.getElem?_eq_none ?_
      unfold rowsAt; simp; omega
    rw [hn, hn]
    by_cases e : y = x
    · rw [if_pos e, if_neg (by omega)]
    · rw [if_neg e]
theorem fanout_all_vc {c : Circ} {K : List (List Ln) → Prop} (g : FanPre c) (h : K (fanL c)) : fanout_all_wp c K := by
  have hlen := g.len
  unfold fanout_all_wp
  refine ⟨by omega, by omega, ?_⟩
  refine joinLoop (fun s => s.2 ≤ c.nodes.length ∧ s.1 = rowsAt c s.2 0 []) (fun s => c.nodes.length - s.2) (fun a => a = fanL c) ?_ ?_ ?_
  · rintro k ⟨R, i⟩ nx ⟨hi, hR⟩ hnx hk
    dsimp only at hi hR
    subst hR
    refine ⟨fun q => ?_, fun q => ?_⟩
    · have q := lt_t.1 q
      try dsimp only at q
      obtain ⟨y, hy⟩ := get_lt q
      obtain ⟨g1, g2⟩ := g.ins i y hy
      refine joinI ⟨y, hy, ?_⟩
      refine loopW_intro (fun s => s.2 ≤ y.ins.length ∧ s.1 = rowsAt c i s.2 y.ins) (fun s => y.ins.length - s.2) ?_ ⟨Nat.zero_le _, by unfold rowsAt; simp⟩
      rintro ⟨R1, t⟩ nx1 ⟨ht, hR⟩ hnx1
      dsimp only at ht hR
      subst hR
      refine ⟨fun q1 => ?_, fun q1 => ?_⟩
      · have q1 := lt_t.1 q1
        try dsimp only at q1
        obtain ⟨z, hz⟩ := get_lt q1
        have hzn := g1 z (List.mem_of_getElem? hz)
        have hb := fanPre_len g z i hi
        have hb2 := fanNode_len z i (y.ins.take t)
        have hb3 : (y.ins.take t).length ≤ 16 := by rw [List.length_take]; omega
        refine joinI ⟨z, hz, fun e => absurd (lt_t.1 e) (Nat.not_lt_zero _), fun _ => ⟨fun _ => ?_, fun e => ?_⟩⟩
        · refine ⟨hzn, _, rowsAt_get hzn, by simp only [List.length_append, List.length_singleton]; omega, hzn, by omega, ?_⟩
          rw [rowsAt_step hz]
          exact hnx1 (rowsAt c i (t + 1) y.ins, t + 1) ⟨q1, rfl⟩ (by dsimp only; omega)
        · have e2 : ltN z c.nodes.length = true := lt_t.2 hzn
          rw [e2] at e
          cases e
      · have q1 := lt_f.1 q1
        try dsimp only at q1
        refine ⟨by omega, hnx (rowsAt c i t y.ins, i + 1) ⟨q, ?_⟩ (by dsimp only; omega)⟩
        unfold rowsAt
        refine List.map_congr_left fun x _ => ?_
        rw [List.take_of_length_le q1, fanPre_succ hy]
        simp [fanNode]
    · have q := lt_f.1 q
      try dsimp only at q
      have : i = c.nodes.length := by omega
      subst this
      refine hk _ ?_
      unfold rowsAt fanL
      refine List.map_congr_left fun x _ => ?_
      unfold fanPre
      rw [List.take_of_length_le (by simp)]
      simp [fanNode]
  · refine ⟨Nat.zero_le _, ?_⟩
    unfold rowsAt
    apply List.ext_getElem?
    intro x
    rw [List.getElem?_replicate, List.getElem?_map]
    by_cases q : x < c.nodes.length
    · rw [if_pos q, List.getElem?_range q]
      simp [fanPre, fanNode]
    · rw [if_neg q, List.getElem?_eq_none (by simp; omega)]
      rfl
  · rintro a rfl
    have hl : (fanL c).length = c.nodes.length := by unfold fanL; simp
    refine joinLoop (fun s => s.2 ≤ c.nodes.length ∧ s.1 = fanL c) (fun s => c.nodes.length - s.2) (fun a => a = fanL c) ?_ ⟨Nat.zero_le _, rfl⟩ ?_
    · rintro k ⟨R, i⟩ nx ⟨hi, hR⟩ hnx hk
      dsimp only at hi hR
      subst hR
      refine ⟨fun q => ?_, fun _ => hk _ rfl⟩
      have q := lt_t.1 q
      try dsimp only at q
      obtain ⟨y, hy⟩ := get_lt (l := fanL c) (i := i) (by omega)
      refine ⟨q, y, hy, q, by omega, hnx _ ⟨q, ?_⟩ (by dsimp only; omega)⟩
      obtain ⟨h1, rfl⟩ := List.getElem?_eq_some_iff.1 hy
      exact List.set_getElem_self h1
    · rintro a rfl
      exact ⟨hl.symm, h⟩
theorem fan_ok {c : Circ} (g : FanPre c) : FanOk c := by
  refine FnV.of_walk (enc := encL 1 (encL 2 encLn)) (pureL fun r => AllPure.cons (pureL fun l => pure_lnC l) AllPure.nil) fun h hB => ?_
  exact fanout_all_walk (K := fun r => r = fanL c) (fanout_all_vc g rfl) hB
theorem isname_run : ([0, 1, 2, 3, 4, 5, 6, 7, 8, 9, 10, 11, 12, 13, 14, 15].all fun i => isTrue (runFn Tryd.prog [] (orcExt Tryd.prog) 60 83 #[.string (nameB i)] (heapOf vars))) = true := by kernel_rfl
theorem isNm {i : Nat} (hi : i < 16) : IsNm (nameB i) := by
  have hm : i ∈ [0, 1, 2, 3, 4, 5, 6, 7, 8, 9, 10, 11, 12, 13, 14, 15] := by
    have : i = 0 ∨ i = 1 ∨ i = 2 ∨ i = 3 ∨ i = 4 ∨ i = 5 ∨ i = 6 ∨ i = 7 ∨ i = 8 ∨ i = 9 ∨ i = 10 ∨ i = 11 ∨ i = 12 ∨ i = 13 ∨ i = 14 ∨ i = 15 := by omega
    simpa using this
  obtain ⟨h', e⟩ := isTrue_iff (List.all_eq_true.1 isname_run i hm)
  have c := (runFn_sound hM hP (fun f vs h v e => orcExt_sound f vs h v e) 60 _ _ _ _ _ e).1
  exact ⟨PureV.flatB rfl, fun h b => c.lift (by kernel_rfl) rfl (bears_vars (hasSize b) (hasVars b))⟩
theorem nameB_inj : ∀ i, i < 16 → ∀ j, j < 16 → nameB i = nameB j → i = j := by decide +kernel
theorem mget_none {l : List ByteArray} {x : ByteArray} (h : x ∉ l) : mget (l.map fun s => (s, true)) x = none := by
  induction l with
  | nil => rfl
  | cons a l ih =>
    simp only [List.mem_cons, not_or] at h
    rw [List.map_cons, mget, if_neg h.1]
    exact ih h.2
theorem mset_new {l : List ByteArray} {x : ByteArray} (h : x ∉ l) : mset (l.map fun s => (s, true)) x true = (l ++ [x]).map fun s => (s, true) := by
  induction l with
  | nil => rfl
  | cons a l ih =>
    simp only [List.mem_cons, not_or] at h
    rw [List.map_cons, mset, if_neg h.1, ih h.2]
    rfl
theorem names_all_vc {c : Circ} {K : Nat → Prop} (h1 : ∀ s ∈ c.names, IsNm s) (h2 : c.names.Nodup) (h3 : c.names.length < 2 ^ 60) (h : K 0) : names_all_wp c K := by
  unfold names_all_wp
  refine joinLoop (fun s => s.2 ≤ c.names.length ∧ s.1 = (c.names.take s.2).map fun s => (s, true)) (fun s => c.names.length - s.2) (fun _ => True) ?_ ⟨Nat.zero_le _, by simp⟩ (fun _ _ => h)
  rintro k ⟨m, i⟩ nx ⟨hi, hR⟩ hnx hk
  dsimp only at hi hR
  subst hR
  refine ⟨fun q => ?_, fun _ => hk () trivial⟩
  have q := lt_t.1 q
  try dsimp only at q
  obtain ⟨x, hx⟩ := get_lt q
  obtain ⟨l1, l2⟩ := List.getElem?_eq_some_iff.1 hx
  have hnot : x ∉ c.names.take i := fun mm => by
    obtain ⟨j, hj, e⟩ := List.getElem_of_mem mm
    rw [List.length_take] at hj
    rw [List.getElem_take] at e
    exact List.pairwise_iff_getElem.1 h2 j i (by omega) l1 (by omega) (e.trans l2.symm)
  refine ⟨x, hx, joinI ⟨h1 x (List.mem_of_getElem? hx), (fun e => by cases e), fun _ => ?_⟩⟩
  rw [mget_none hnot]
  refine ⟨(fun e => by cases e), fun _ => ⟨by omega, hnx _ ⟨q, ?_⟩ (by dsimp only; omega)⟩⟩
  dsimp only
  rw [mset_new hnot, List.take_succ_eq_append_getElem l1, l2]
theorem names_ok {c : Circ} {n : Nat} (hn : n ≤ 16) (hc : c.names = (List.range n).map nameB) : NamesOk c := by
  refine FnV.of_walk (enc := i64) (PureV.flat rfl) fun h hB => ?_
  refine names_all_walk (K := fun r => r = 0) (names_all_vc ?_ ?_ ?_ rfl) hB
  · intro s m
    rw [hc] at m
    obtain ⟨i, hi, rfl⟩ := List.mem_map.1 m
    exact isNm (by have := List.mem_range.1 hi; omega)
  · rw [hc]
    unfold List.Nodup
    rw [List.pairwise_map]
    refine List.Pairwise.imp_of_mem ?_ (List.nodup_range (n := n))
    intro a b ha hb hne e
    exact hne (nameB_inj a (by have := List.mem_range.1 ha; omega) b (by have := List.mem_range.1 hb; omega) e)
  · rw [hc]; simp; omega
end Go.Proofs.YtedefohdeignpaaDoor
