/-
  P7, Carg, P8: parts of the proof.
-/
import Derived.Test.YtedefohdeignpaaDoorIo43
namespace Go.Proofs.YtedefohdeignpaaDoor
open Go.Abs
set_option maxRecDepth 100000
theorem updN_length {first : Nat} {d : Nat → Nat} {ns : List Node} : ∀ i, (updN first d i ns).length = ns.length
  | 0 => rfl
  | i + 1 => by rw [updN, List.length_set, updN_length i]
theorem updN_get {first : Nat} {d : Nat → Nat} {ns : List Node} {j : Nat} : ∀ {i}, first + i ≤ j → (updN first d i ns)[j]? = ns[j]?
  | 0, _ => rfl
  | i + 1, h => by
    rw [updN, List.getElem?_set_ne (by omega)]
    exact updN_get (by omega)
theorem rawN_pos' (x : CData) : 0 < (rawN x).length := by
  rw [rawN_length]; omega
theorem rawN_le' {x : CData} (hm : x.mem = false) : (rawN x).length ≤ 14 := by
  rw [rawN_length, hm]
  have := Nat.mod_lt x.inp (show 0 < 4 by decide)
  have := Nat.mod_lt x.dffs (show 0 < 3 by decide)
  have := Nat.min_le_right x.gates.length 8
  simp only [Bool.false_eq_true, if_false]
  omega
/-- A circuit whose numbers are bytes. -/
structure CB (x : CData) : Prop where
  inp : x.inp < 256
  dffs : x.dffs < 256
  data0 : x.data0 < 256
  data1 : x.data1 < 256
  port0 : x.port0 < 256
  port1 : x.port1 < 256
  port2 : x.port2 < 256
  port3 : x.port3 < 256
  gates : ∀ g ∈ x.gates, GOk g
  outs : ∀ o ∈ x.outs, o < 256
theorem of_circ_vc {x : CData} {K : Circ → Prop} (hx : CB x) (hm : x.mem = false) (h : K (circN x)) : law03_Of_wp x K := by
  have h4 := Nat.mod_lt x.inp (show 0 < 4 by decide)
  have h3 := Nat.mod_lt x.dffs (show 0 < 3 by decide)
  have hpos := rawN_pos' x
  have hle := rawN_le' hm
  have hbase : (baseN x.inp x.dffs x.mem).length = x.inp % 4 + 1 + x.dffs % 3 := by rw [baseN_length, hm]; simp
  unfold law03_Of_wp
  refine joinLoop (fun s => s.2 ≤ x.inp % 4 + 1 ∧ s.1 = List.replicate s.2 inputN) (fun s => x.inp % 4 + 1 - s.2) (fun a => a = List.replicate (x.inp % 4 + 1) inputN) ?_ ⟨Nat.zero_le _, rfl⟩ ?_
  · rintro k ⟨l, i⟩ nx ⟨hi, hl⟩ hnx hk
    dsimp only at hi hl
    subst hl
    refine ⟨by decide, by omega, fun q => ?_, fun q => ?_⟩
    · have q := nlt_t.1 q
      try dsimp only at q
      refine ⟨by simp only [List.length_replicate, List.length_singleton]; omega, by omega, hnx _ ⟨by dsimp only; omega, ?_⟩ (by dsimp only; omega)⟩
      dsimp only
      rw [List.replicate_succ']; rfl
    · have q := nlt_f.1 q
      try dsimp only at q
      have : i = x.inp % 4 + 1 := by omega
      subst this
      exact hk _ rfl
  rintro a rfl
  refine ⟨by decide, by omega, ?_⟩
  refine joinLoop (fun s => s.2 ≤ x.dffs % 3 ∧ s.1 = List.replicate (x.inp % 4 + 1) inputN ++ List.replicate s.2 (dffN 0)) (fun s => x.dffs % 3 - s.2) (fun a => a = baseN x.inp x.dffs x.mem) ?_ ⟨Nat.zero_le _, by simp⟩ ?_
  · rintro k ⟨l, i⟩ nx ⟨hi, hl⟩ hnx hk
    dsimp only at hi hl
    subst hl
    refine ⟨fun q => ?_, fun q => ?_⟩
    · have q := lt_t.1 q
      try dsimp only at q
      refine ⟨by simp only [List.length_append, List.length_replicate, List.length_singleton]; omega, by omega, hnx _ ⟨by dsimp only; omega, ?_⟩ (by dsimp only; omega)⟩
      dsimp only
      rw [List.replicate_succ' (n := i), ← List.append_assoc]; rfl
    · have q := lt_f.1 q
      try dsimp only at q
      have : i = x.dffs % 3 := by omega
      subst this
      refine hk _ ?_
      unfold baseN; rw [hm]; simp
  rintro a rfl
  refine joinI ⟨(fun q => by rw [hm] at q; cases q), fun _ => ?_⟩
  refine joinLoop (fun s => s.2 ≤ min x.gates.length 8 ∧ s.1 = gatesN x.bus x.gates (baseN x.inp x.dffs x.mem) s.2) (fun s => min x.gates.length 8 - s.2) (fun a => a = rawN x) ?_ ⟨Nat.zero_le _, rfl⟩ ?_
  · rintro k ⟨l, i⟩ nx ⟨hi, hl⟩ hnx hk
    dsimp only at hi hl
    subst hl
    have hgl : i ≤ x.gates.length := Nat.le_trans hi (Nat.min_le_left _ _)
    have hN := gatesN_length x.bus x.gates (baseN x.inp x.dffs x.mem) i hgl
    have hi8 : i ≤ 8 := Nat.le_trans hi (Nat.min_le_right _ _)
    have stop : ¬ (i < x.gates.length ∧ i < 8) → k (gatesN x.bus x.gates (baseN x.inp x.dffs x.mem) i) := fun q => by
      have : i = min x.gates.length 8 := by omega
      exact hk _ (by rw [this]; rfl)
    refine joinI ⟨fun q => ⟨fun q2 => ?_, fun q2 => stop fun e => absurd e.2 (by have := lt_f.1 q2; omega)⟩, fun q => ⟨(fun e => by cases e), fun _ => stop fun e => absurd e.1 (by have := lt_f.1 q; (try dsimp only at this); omega)⟩⟩
    have q := lt_t.1 q
    have q2 := lt_t.1 q2
    try dsimp only at q q2
    obtain ⟨gd, hg⟩ := get_lt q
    refine ⟨gd, hg, hx.gates _ (List.mem_of_getElem? hg), by omega, by omega, by simp only [List.length_singleton]; omega, by omega, hnx _ ⟨by dsimp only; omega, ?_⟩ (by dsimp only; omega)⟩
    dsimp only
    rw [gatesN_succ hg]
  rintro a rfl
  have hfirst : (List.replicate (x.inp % 4 + 1) inputN).length = x.inp % 4 + 1 := List.length_replicate
  refine joinLoop (fun s => s.2 ≤ x.dffs % 3 ∧ s.1 = updN (x.inp % 4 + 1) (dataN x (rawN x).length) s.2 (rawN x)) (fun s => x.dffs % 3 - s.2) (fun a => a = updN (x.inp % 4 + 1) (dataN x (rawN x).length) (x.dffs % 3) (rawN x)) ?_ ⟨Nat.zero_le _, rfl⟩ ?_
  · rintro k ⟨l, i⟩ nx ⟨hi, hl⟩ hnx hk
    dsimp only at hi hl
    subst hl
    refine ⟨fun q => ?_, fun q => ?_⟩
    · have q := lt_t.1 q
      try dsimp only at q
      have hget : (updN (x.inp % 4 + 1) (dataN x (rawN x).length) i (rawN x))[(List.replicate (x.inp % 4 + 1) inputN).length + i]? = some (dffN 0) := by
        rw [hfirst, updN_get (Nat.le_refl _)]
        exact rawN_dff q
      have step : ∀ d, d = dataN x (rawN x).length i → nx ((updN (x.inp % 4 + 1) (dataN x (rawN x).length) i (rawN x)).set ((List.replicate (x.inp % 4 + 1) inputN).length + i) { dffN 0 with ins := [d] }, i + 1) := fun d e => by
        refine hnx _ ⟨by dsimp only; omega, ?_⟩ (by dsimp only; omega)
        dsimp only
        rw [hfirst, e]
        rfl
      refine ⟨by omega, by omega, fun e => ⟨hx.data0, hpos, _, hget, by omega, step _ ?_⟩, fun e => ⟨hx.data1, hpos, _, hget, by omega, step _ ?_⟩⟩
      · unfold dataN; rw [if_pos e]
      · unfold dataN; rw [if_neg (by omega)]
    · have q := lt_f.1 q
      try dsimp only at q
      have : i = x.dffs % 3 := by omega
      subst this
      exact hk _ rfl
  rintro a rfl
  refine ⟨(fun q => by rw [hm] at q; cases q), fun _ => ?_⟩
  refine joinLoop (fun s => s.2 ≤ (rawN x).length ∧ s.1 = (List.range s.2).map nameB) (fun s => (rawN x).length - s.2) (fun a => a = (List.range (rawN x).length).map nameB) ?_ ⟨Nat.zero_le _, rfl⟩ ?_
  · rintro k ⟨l, i⟩ nx ⟨hi, hl⟩ hnx hk
    dsimp only at hi hl
    subst hl
    refine ⟨fun q => ?_, fun q => ?_⟩
    · have q := lt_t.1 q
      try dsimp only at q
      refine ⟨by omega, by simp only [List.length_map, List.length_range, List.length_singleton]; omega, by omega, hnx _ ⟨by dsimp only; omega, ?_⟩ (by dsimp only; omega)⟩
      dsimp only
      rw [List.range_succ, List.map_append]; rfl
    · have q := lt_f.1 q
      try dsimp only at q
      have : i = (rawN x).length := by omega
      subst this
      exact hk _ rfl
  rintro a rfl
  refine joinLoop (fun s => s.2 ≤ min x.outs.length 3 ∧ s.1 = (x.outs.take s.2).map (· % (rawN x).length)) (fun s => min x.outs.length 3 - s.2) (fun a => a = (x.outs.take 3).map (· % (rawN x).length)) ?_ ⟨Nat.zero_le _, by simp⟩ ?_
  · rintro k ⟨l, i⟩ nx ⟨hi, hl⟩ hnx hk
    dsimp only at hi hl
    subst hl
    have hi3 : i ≤ 3 := Nat.le_trans hi (Nat.min_le_right _ _)
    have hil : i ≤ x.outs.length := Nat.le_trans hi (Nat.min_le_left _ _)
    have hlen : ((x.outs.take i).map (· % (rawN x).length)).length = i := by rw [List.length_map, List.length_take]; omega
    have stop : ¬ (i < x.outs.length ∧ i < 3) → k ((x.outs.take i).map (· % (rawN x).length)) := fun q => by
      refine hk _ ?_
      by_cases c : i = 3
      · rw [c]
      · rw [List.take_of_length_le (by omega), List.take_of_length_le (by omega)]
    refine joinI ⟨fun q => ⟨fun q2 => ?_, fun q2 => stop fun e => absurd e.2 (by have := lt_f.1 q2; omega)⟩, fun q => ⟨(fun e => by cases e), fun _ => stop fun e => absurd e.1 (by have := lt_f.1 q; (try dsimp only at this); omega)⟩⟩
    have q := lt_t.1 q
    have q2 := lt_t.1 q2
    try dsimp only at q q2
    obtain ⟨o, ho⟩ := get_lt q
    obtain ⟨l1, l2⟩ := List.getElem?_eq_some_iff.1 ho
    refine ⟨o, ho, hx.outs _ (List.mem_of_getElem? ho), hpos, by rw [hlen]; simp only [List.length_singleton]; omega, by omega, hnx _ ⟨by dsimp only; omega, ?_⟩ (by dsimp only; omega)⟩
    dsimp only
    rw [List.take_succ_eq_append_getElem l1, l2, List.map_append]; rfl
  rintro a rfl
  have hol : ((x.outs.take 3).map (· % (rawN x).length)).length ≤ 3 := by rw [List.length_map, List.length_take]; omega
  refine ⟨hpos, by omega, by simp only [List.length_singleton]; omega, ?_⟩
  unfold circN at h
  rw [hm] at h
  exact h
end Go.Proofs.YtedefohdeignpaaDoor

namespace Go.Proofs.YtedefohdeignpaaDoor
open Go.Abs
set_option maxRecDepth 100000
def shB : Sh := .int .u8
def shG : Sh := .pair shB (.pair (.pair shB (.pair shB (.pair shB .unit))) .unit)
def shC : Sh := .pair shB (.pair shB (.pair (.pair shB (.pair shB .unit)) (.pair .bool (.pair .bool (.pair (.pair shB (.pair shB (.pair shB (.pair shB .unit)))) (.pair (.slice shG) (.pair (.slice shB) .unit)))))))
theorem byte_of {a : Int} (w : shB.wf a) : ∃ n : Nat, n < 256 ∧ a = Int.ofNat n := by
  have h := u8_range w
  exact ⟨a.toNat, by omega, by simp; omega⟩
theorem list_of {α β : Type} {f : α → Value} {g : β → Value} {p : β → Prop} : ∀ (l : List α), (∀ x ∈ l, ∃ y, p y ∧ f x = g y) → ∃ m : List β, (∀ y ∈ m, p y) ∧ l.map f = m.map g ∧ m.length = l.length
  | [], _ => ⟨[], (fun _ h => by cases h), rfl, rfl⟩
  | x :: l, h => by
    obtain ⟨y, h1, h2⟩ := h x (by simp)
    obtain ⟨m, h3, h4, h5⟩ := list_of l fun z hz => h z (by simp [hz])
    refine ⟨y :: m, fun z hz => ?_, by simp [h2, h4], by simp [h5]⟩
    rcases List.mem_cons.1 hz with rfl | hz
    · exact h1
    · exact h3 z hz
theorem bytes_arg {l : List Int} (w : (Sh.slice shB).wf l) : ∃ m : List Nat, (∀ v ∈ m, v < 256) ∧ (Sh.slice shB).cellsF l = [encL 1 n8 m] := by
  obtain ⟨_, w2⟩ := w
  obtain ⟨m, h1, h2, _⟩ := list_of (f := fun x => elV shB.one (shB.cellsF x)) (g := n8) (p := (· < 256)) l fun x hx => by
    obtain ⟨n, q1, rfl⟩ := byte_of (w2 x hx)
    exact ⟨n, q1, rfl⟩
  refine ⟨m, h1, ?_⟩
  · show [FL 1 (l.map fun x => elV shB.one (shB.cellsF x))] = _
    rw [h2]; rfl
theorem gates_arg {l : List shG.Den} (w : (Sh.slice shG).wf l) : ∃ m : List GData, (∀ v ∈ m, GOk v) ∧ (Sh.slice shG).cellsF l = [FL 4 (m.map encG)] := by
  obtain ⟨_, w2⟩ := w
  obtain ⟨m, h1, h2, _⟩ := list_of (f := fun x => elV shG.one (shG.cellsF x)) (g := encG) (p := GOk) l fun x hx => by
    obtain ⟨k, ⟨a, b, d, u⟩, u2⟩ := x
    obtain ⟨w1, ⟨wa, wb, wd, _⟩, _⟩ := w2 _ hx
    obtain ⟨k, q1, rfl⟩ := byte_of w1
    obtain ⟨a, q2, rfl⟩ := byte_of wa
    obtain ⟨b, q3, rfl⟩ := byte_of wb
    obtain ⟨d, q4, rfl⟩ := byte_of wd
    exact ⟨⟨k, a, b, d⟩, ⟨q1, q2, q3, q4⟩, rfl⟩
  refine ⟨m, h1, ?_⟩
  · show [FL 4 (l.map fun x => elV shG.one (shG.cellsF x))] = _
    rw [h2]
theorem c_arg {x : shC.Den} (w : shC.wf x) : ∃ y : CData, CB y ∧ elV (!true) (shC.cellsF x) = encC y := by
  obtain ⟨i, f, ⟨d0, d1, u1⟩, bu, me, ⟨p0, p1, p2, p3, u2⟩, gs, os, u3⟩ := x
  obtain ⟨wi, wf, ⟨wd0, wd1, _⟩, _, _, ⟨wp0, wp1, wp2, wp3, _⟩, wg, wo, _⟩ := w
  obtain ⟨i, qi, rfl⟩ := byte_of wi
  obtain ⟨f, qf, rfl⟩ := byte_of wf
  obtain ⟨d0, qd0, rfl⟩ := byte_of wd0
  obtain ⟨d1, qd1, rfl⟩ := byte_of wd1
  obtain ⟨p0, qp0, rfl⟩ := byte_of wp0
  obtain ⟨p1, qp1, rfl⟩ := byte_of wp1
  obtain ⟨p2, qp2, rfl⟩ := byte_of wp2
  obtain ⟨p3, qp3, rfl⟩ := byte_of wp3
  obtain ⟨g, g1, g3⟩ := gates_arg wg
  obtain ⟨o, o1, o3⟩ := bytes_arg wo
  refine ⟨⟨i, f, d0, d1, bu, me, p0, p1, p2, p3, g, o⟩, ⟨qi, qf, qd0, qd1, qp0, qp1, qp2, qp3, g1, o1⟩, ?_⟩
  show Value.agg ⟨[n8 i, n8 f, n8 d0, n8 d1, .bool bu, .bool me, n8 p0, n8 p1, n8 p2, n8 p3] ++ ((Sh.slice shG).cellsF gs ++ ((Sh.slice shB).cellsF os ++ []))⟩ = _
  rw [g3, o3]
  rfl
end Go.Proofs.YtedefohdeignpaaDoor

namespace Go.Proofs.YtedefohdeignpaaDoor
open Go.Abs
set_option maxRecDepth 100000
/-- A gate behind nodes of these kinds. -/
structure GK (ks : List Nat) (x : Node) : Prop where
  kind1 : 1 ≤ x.kind
  kind : x.kind ≤ 13
  arity : Arity x.kind x.ins.length
  ins : ∀ k ∈ x.ins, k < ks.length
  bus : x.kind = 13 → ∀ k ∈ x.ins, ks.getD k 0 = 12
  mem : x.mem = 0
  bit : x.bit = 0
theorem trisK_mem (ks : List Nat) : ∀ (i : Nat) (t : Nat), t ∈ trisK ks i → t < i ∧ ks.getD t 0 = 12
  | 0, t, h => by unfold trisK at h; cases h
  | i + 1, t, h => by
    unfold trisK at h
    split at h
    · rename_i e
      rcases List.mem_append.1 h with h | h
      · have := trisK_mem ks i t h; exact ⟨by omega, this.2⟩
      · rw [List.mem_singleton] at h; subst h; exact ⟨by omega, e⟩
    · have := trisK_mem ks i t h; exact ⟨by omega, this.2⟩
theorem getD_mem {l : List Nat} {i : Nat} (h : i < l.length) : l.getD i 0 ∈ l := by
  rw [List.getD, List.getElem?_eq_getElem h]
  exact List.getElem_mem h
theorem arity_gate : ∀ kk, kk < 6 → Arity (5 + kk) 2 ∧ Arity (5 + kk) 3 := by decide
theorem gateK_ok (bus : Bool) (g : GData) {ks : List Nat} (hn : 0 < ks.length) : GK ks (gateK bus g ks) := by
  have ha := Nat.mod_lt g.a hn
  have hb := Nat.mod_lt g.b hn
  have hd := Nat.mod_lt g.d hn
  have hkk : (if bus then g.kind % 13 else g.kind % 9) < 13 := by
    split
    · exact Nat.mod_lt _ (by decide)
    · exact Nat.lt_trans (Nat.mod_lt _ (by decide)) (by decide)
  unfold gateK
  generalize (if bus then g.kind % 13 else g.kind % 9) = kk at hkk
  by_cases c1 : kk < 6
  · rw [if_pos c1]
    by_cases c2 : 128 ≤ g.kind
    · rw [if_pos c2]
      refine ⟨by dsimp only; omega, by dsimp only; omega, ?_, ?_, fun e => by dsimp only at e; omega, rfl, rfl⟩
      · exact (arity_gate kk c1).2
      · intro k m
        simp only [List.mem_cons, List.not_mem_nil, or_false] at m
        rcases m with rfl | rfl | rfl <;> assumption
    · rw [if_neg c2]
      refine ⟨by dsimp only; omega, by dsimp only; omega, ?_, ?_, fun e => by dsimp only at e; omega, rfl, rfl⟩
      · exact (arity_gate kk c1).1
      · intro k m
        simp only [List.mem_cons, List.not_mem_nil, or_false] at m
        rcases m with rfl | rfl <;> assumption
  rw [if_neg c1]
  by_cases c2 : kk = 6
  · rw [if_pos c2]
    exact ⟨(by decide : 1 ≤ 4), (by decide : 4 ≤ 13), (by decide : Arity 4 1), fun k m => by simp only [List.mem_cons, List.not_mem_nil, or_false] at m; subst m; exact ha, (fun e => by cases e), rfl, rfl⟩
  rw [if_neg c2]
  by_cases c3 : kk = 7
  · rw [if_pos c3]
    refine ⟨(by decide : 1 ≤ 11), (by decide : 11 ≤ 13), (by decide : Arity 11 3), fun k m => ?_, (fun e => by cases e), rfl, rfl⟩
    simp only [List.mem_cons, List.not_mem_nil, or_false] at m
    rcases m with rfl | rfl | rfl <;> assumption
  rw [if_neg c3]
  by_cases c4 : kk = 9 ∨ kk = 10
  · rw [if_pos c4]
    refine ⟨(by decide : 1 ≤ 12), (by decide : 12 ≤ 13), (by decide : Arity 12 2), fun k m => ?_, (fun e => by cases e), rfl, rfl⟩
    simp only [List.mem_cons, List.not_mem_nil, or_false] at m
    rcases m with rfl | rfl <;> assumption
  rw [if_neg c4]
  by_cases c5 : 10 < kk ∧ 0 < (trisK ks ks.length).length
  · rw [if_pos c5]
    have h1 := trisK_mem ks ks.length _ (getD_mem (Nat.mod_lt g.a c5.2))
    have h2 := trisK_mem ks ks.length _ (getD_mem (Nat.mod_lt (g.a % (trisK ks ks.length).length + 1) c5.2))
    by_cases c6 : 1 < (trisK ks ks.length).length
    · rw [if_pos c6]
      refine ⟨(by decide : 1 ≤ 13), (by decide : 13 ≤ 13), (by decide : Arity 13 2), fun k m => ?_, fun _ k m => ?_, rfl, rfl⟩ <;>
      · simp only [List.mem_cons, List.not_mem_nil, or_false] at m
        rcases m with rfl | rfl
        · first | exact h1.1 | exact h1.2
        · first | exact h2.1 | exact h2.2
    · rw [if_neg c6]
      refine ⟨(by decide : 1 ≤ 13), (by decide : 13 ≤ 13), (by decide : Arity 13 1), fun k m => ?_, fun _ k m => ?_, rfl, rfl⟩ <;>
      · simp only [List.mem_cons, List.not_mem_nil, or_false] at m
        subst m
        first | exact h1.1 | exact h1.2
  rw [if_neg c5]
  by_cases c7 : 240 < g.kind
  · rw [if_pos c7]
    have : g.a % 2 = 0 ∨ g.a % 2 = 1 := by omega
    rcases this with e | e <;> rw [e]
    · exact ⟨(by decide : 1 ≤ 1), (by decide : 1 ≤ 13), (by decide : Arity 1 0), (fun k m => by cases m), (fun _ k m => by cases m), rfl, rfl⟩
    · exact ⟨(by decide : 1 ≤ 2), (by decide : 2 ≤ 13), (by decide : Arity 2 0), (fun k m => by cases m), (fun _ k m => by cases m), rfl, rfl⟩
  · rw [if_neg c7]
    exact ⟨(by decide : 1 ≤ 3), (by decide : 3 ≤ 13), (by decide : Arity 3 1), fun k m => by simp only [List.mem_cons, List.not_mem_nil, or_false] at m; subst m; exact ha, (fun e => by cases e), rfl, rfl⟩
theorem gateK_plain (g : GData) (ks : List Nat) : (gateK false g ks).kind ≠ 12 ∧ (gateK false g ks).kind ≠ 13 := by
  have hkk := Nat.mod_lt g.kind (show 0 < 9 by decide)
  unfold gateK
  simp only [Bool.false_eq_true, if_false]
  generalize g.kind % 9 = kk at hkk
  by_cases c1 : kk < 6
  · rw [if_pos c1]; dsimp only; omega
  rw [if_neg c1]
  by_cases c2 : kk = 6
  · rw [if_pos c2]; exact (by decide : 4 ≠ 12 ∧ 4 ≠ 13)
  rw [if_neg c2]
  by_cases c3 : kk = 7
  · rw [if_pos c3]; exact (by decide : 11 ≠ 12 ∧ 11 ≠ 13)
  rw [if_neg c3, if_neg (by omega), if_neg (by omega)]
  by_cases c7 : 240 < g.kind
  · rw [if_pos c7]; dsimp only; omega
  · rw [if_neg c7]; exact (by decide : 3 ≠ 12 ∧ 3 ≠ 13)
theorem gatesN_node (bus : Bool) (gs : List GData) (base : List Node) (hb : 0 < base.length) : ∀ m, m ≤ gs.length → ∀ (i : Nat) (y : Node), (gatesN bus gs base m)[i]? = some y →
    (i < base.length ∧ base[i]? = some y) ∨ (base.length ≤ i ∧ ∃ g, y = gateK bus g (((gatesN bus gs base m).take i).map Node.kind))
  | 0, _, i, y, h => .inl ⟨lt_of_get h, h⟩
  | m + 1, hm, i, y, h => by
    have hg : gs[m]? = some gs[m] := List.getElem?_eq_getElem (by omega)
    have hl := gatesN_length bus gs base m (by omega)
    rw [gatesN_succ hg] at h ⊢
    by_cases c : i < (gatesN bus gs base m).length
    · rw [List.getElem?_append_left c] at h
      rcases gatesN_node bus gs base hb m (by omega) i y h with q | ⟨q1, g, q2⟩
      · exact .inl q
      · refine .inr ⟨q1, g, ?_⟩
        rw [List.take_append_of_le_length (by omega)]
        exact q2
    · have hi : i = (gatesN bus gs base m).length := by
        have := lt_of_get h
        rw [List.length_append, List.length_singleton] at this
        omega
      subst hi
      rw [List.getElem?_append_right (Nat.le_refl _), Nat.sub_self] at h
      cases h
      refine .inr ⟨by omega, gs[m], ?_⟩
      rw [List.take_left']
      rfl
theorem updN_at {first : Nat} {d : Nat → Nat} {ns : List Node} {j : Nat} : ∀ {m}, j < m → first + m ≤ ns.length → (updN first d m ns)[first + j]? = some (dffN (d j))
  | m + 1, h, hl => by
    rw [updN, List.getElem?_set]
    by_cases c : m = j
    · subst c
      rw [if_pos rfl, if_pos (by rw [updN_length]; omega)]
    · rw [if_neg (by omega)]
      exact updN_at (by omega) (by omega)
theorem updN_low {first : Nat} {d : Nat → Nat} {ns : List Node} {j : Nat} (h : j < first) : ∀ m, (updN first d m ns)[j]? = ns[j]?
  | 0 => rfl
  | m + 1 => by rw [updN, List.getElem?_set_ne (by omega)]; exact updN_low h m
/-- A node of a law's circuit. -/
theorem circ_node {x : CData} (hm : x.mem = false) {i : Nat} {y : Node} (h : (circN x).nodes[i]? = some y) :
    (i < x.inp % 4 + 1 ∧ y = inputN) ∨ (x.inp % 4 + 1 ≤ i ∧ i < x.inp % 4 + 1 + x.dffs % 3 ∧ ∃ d, d < (rawN x).length ∧ y = dffN d) ∨
    (x.inp % 4 + 1 + x.dffs % 3 ≤ i ∧ (rawN x)[i]? = some y ∧ ∃ g, y = gateK x.bus g (((rawN x).take i).map Node.kind)) := by
  have h : (updN (x.inp % 4 + 1) (dataN x (rawN x).length) (x.dffs % 3) (rawN x))[i]? = some y := h
  have hbl : (baseN x.inp x.dffs x.mem).length = x.inp % 4 + 1 + x.dffs % 3 := by rw [baseN_length, hm]; simp
  have hrl := rawN_length x
  rw [hm] at hrl
  simp only [Bool.false_eq_true, if_false] at hrl
  have hbase : ∀ i, i < x.inp % 4 + 1 → (baseN x.inp x.dffs x.mem)[i]? = some inputN := fun i hi => by
    unfold baseN
    rw [List.append_assoc, List.getElem?_append_left (by rw [List.length_replicate]; exact hi), List.getElem?_replicate, if_pos hi]
  by_cases c1 : i < x.inp % 4 + 1
  · rw [updN_low c1] at h
    unfold rawN at h
    rw [gatesN_get _ _ _ (by omega) _ (Nat.min_le_left _ _), hbase i c1] at h
    cases h
    exact .inl ⟨c1, rfl⟩
  · by_cases c2 : i < x.inp % 4 + 1 + x.dffs % 3
    · have e : i = x.inp % 4 + 1 + (i - (x.inp % 4 + 1)) := by omega
      rw [e, updN_at (by omega) (by omega)] at h
      cases h
      exact .inr (.inl ⟨by omega, c2, _, Nat.mod_lt _ (rawN_pos' x), rfl⟩)
    · rw [updN_get (by omega)] at h
      refine .inr (.inr ⟨by omega, h, ?_⟩)
      rcases gatesN_node x.bus x.gates (baseN x.inp x.dffs x.mem) (by omega) _ (Nat.min_le_left _ 8) i y h with ⟨q, _⟩ | ⟨_, g, q⟩
      · omega
      · exact ⟨g, q⟩
theorem circ_kinds (x : CData) (hm : x.mem = false) (k : Nat) : (((circN x).nodes).map Node.kind).getD k 0 = ((rawN x).map Node.kind).getD k 0 := by
  have hrl := rawN_length x
  rw [hm] at hrl
  simp only [Bool.false_eq_true, if_false] at hrl
  show ((updN (x.inp % 4 + 1) (dataN x (rawN x).length) (x.dffs % 3) (rawN x)).map Node.kind).getD k 0 = _
  rw [List.getD, List.getD, List.getElem?_map, List.getElem?_map]
  by_cases c1 : k < x.inp % 4 + 1
  · rw [updN_low c1]
  · by_cases c2 : k < x.inp % 4 + 1 + x.dffs % 3
    · have e : k = x.inp % 4 + 1 + (k - (x.inp % 4 + 1)) := by omega
      rw [e, updN_at (by omega) (by omega), rawN_dff (by omega)]
      rfl
    · rw [updN_get (by omega)]
theorem good_circ {x : CData} (hm : x.mem = false) : Good (circN x) := by
  have hle := rawN_le' hm
  have hpos := rawN_pos' x
  have hn : (circN x).nodes.length = (rawN x).length := updN_length _
  have node : ∀ (i : Nat) (y : Node), (circN x).nodes[i]? = some y → GoodN (circN x) i y := by
    intro i y h
    have hi := lt_of_get h
    rw [hn] at hi
    rcases circ_node hm h with ⟨_, rfl⟩ | ⟨_, _, d, hd, rfl⟩ | ⟨h1, h2, g, hg⟩
    · exact ⟨(by decide : 0 ≤ 14), (by decide : Arity 0 0), (fun k m => by cases m), (fun e => by cases e), rfl, rfl, fun e => absurd e (by decide : ¬ 1 ≤ 0)⟩
    · refine ⟨(by decide : 14 ≤ 14), (by decide : Arity 14 1), fun k m => ?_, (fun e => by cases e), rfl, rfl, fun _ e => absurd e (by decide : ¬ 14 ≤ 13)⟩
      have : k = d := by simpa [dffN] using m
      rw [hn, this]; exact hd
    · have hks : (((rawN x).take i).map Node.kind).length = i := by rw [List.length_map, List.length_take]; omega
      have G := gateK_ok x.bus g (ks := ((rawN x).take i).map Node.kind) (by omega)
      rw [← hg] at G
      have lt : ∀ k ∈ y.ins, k < i := fun k m => by have := G.ins k m; omega
      refine ⟨by have := G.kind; omega, G.arity, fun k m => by have := lt k m; omega, fun e k m => ?_, G.mem, G.bit, fun _ _ => lt⟩
      have hk := lt k m
      have hk2 : k < (circN x).nodes.length := by omega
      refine ⟨_, List.getElem?_eq_getElem hk2, ?_⟩
      have e1 := circ_kinds x hm k
      rw [List.getD, List.getElem?_map, List.getElem?_eq_getElem hk2] at e1
      have e2 := G.bus e k m
      rw [List.getD, List.getElem?_map, List.getElem?_take, if_pos hk] at e2
      rw [List.getD, List.getElem?_map, e2] at e1
      exact e1
  refine ⟨by omega, by show ((List.range (rawN x).length).map nameB).length = _; rw [hn]; simp, names_ok (n := (rawN x).length) (by omega) rfl, fan_ok ⟨by omega, fun i y h => ⟨(node i y h).ins, (node i y h).few⟩⟩, ?_, ?_, ?_, node⟩
  · show (if x.mem then _ else _) = _
    rw [hm]; rfl
  · intro o m
    have m : o ∈ (x.outs.take 3).map (· % (rawN x).length) ++ [(rawN x).length - 1] := m
    rw [hn]
    rcases List.mem_append.1 m with m | m
    · obtain ⟨q, _, rfl⟩ := List.mem_map.1 m
      exact Nat.mod_lt _ hpos
    · rw [List.mem_singleton] at m; omega
  · show ((x.outs.take 3).map (· % (rawN x).length) ++ [(rawN x).length - 1]).length ≤ 16
    rw [List.length_append, List.length_map, List.length_take, List.length_singleton]; omega
/-- Without Tri and Bus nodes. -/
theorem plain_circ {x : CData} (hm : x.mem = false) (hb : x.bus = false) : ∀ (i : Nat) (y : Node), (circN x).nodes[i]? = some y → y.kind ≠ 12 ∧ y.kind ≠ 13 ∧ y.kind ≠ 15 := by
  intro i y h
  rcases circ_node hm h with ⟨_, rfl⟩ | ⟨_, _, d, hd, rfl⟩ | ⟨_, _, g, hg⟩
  · decide
  · exact ⟨by show (14 : Nat) ≠ 12; decide, by show (14 : Nat) ≠ 13; decide, by show (14 : Nat) ≠ 15; decide⟩
  · rw [hb] at hg
    subst hg
    have := gateK_plain g (((rawN x).take i).map Node.kind)
    have q := (good_circ hm).node i _ h
    exact ⟨this.1, this.2, by have := q.kind; omega⟩
end Go.Proofs.YtedefohdeignpaaDoor
