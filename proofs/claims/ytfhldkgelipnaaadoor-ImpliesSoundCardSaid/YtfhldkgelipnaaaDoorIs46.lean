/-
  P9, Pa, Pb, Pc, Pd, Pe, Pf, Pg, Ph, ImpliesSound: parts of the proof.
-/
import Derived.Test.YtfhldkgelipnaaaDoorIs45
namespace Go.Proofs.YtfhldkgelipnaaaDoor
open Go.Abs
set_option maxRecDepth 100000
/-- A plain circuit that is fine. -/
structure Pln (c : Circ) : Prop where
  good : Good c
  kinds : ∀ (i : Nat) (y : Node), c.nodes[i]? = some y → y.kind ≠ 12 ∧ y.kind ≠ 13 ∧ y.kind ≠ 15
def isFree (k : Nat) : Bool := k == 0 || k == 14
theorem Pln.gate {c : Circ} (p : Pln c) {i : Nat} {y : Node} (h : c.nodes[i]? = some y) (hf : isFree y.kind = false) : 1 ≤ y.kind ∧ y.kind ≤ 11 := by
  have := p.kinds i y h
  have := (p.good.node i y h).kind
  simp only [isFree, Bool.or_eq_false_iff, beq_eq_false_iff_ne] at hf
  omega
theorem Pln.comb {c : Circ} (p : Pln c) {i : Nat} {y : Node} (h : c.nodes[i]? = some y) (hf : isFree y.kind = false) : isComb y.kind := by
  have := p.gate h hf
  exact ⟨this.1, by omega⟩
theorem comb_gate {k : Nat} (h : isComb k) : isFree k = false := by
  obtain ⟨h1, h2⟩ := h
  simp only [isFree, Bool.or_eq_false_iff, beq_eq_false_iff_ne]
  omega
theorem free_vc {k : Nat} {K : Bool → Prop} (h : K (isFree k)) : implies_free_wp k K := by
  unfold implies_free_wp
  have e : isFree k = (eqN k 0 || eqN k 14) := by unfold isFree; rw [Bool.eq_iff_iff]; simp [eqN_eq]
  rw [e] at h
  refine ⟨fun q => by rw [q] at h; exact h, fun q => by rw [q] at h; exact h⟩
theorem plain_vc {c : Circ} {K : Nat → Prop} (p : Pln c) (h : K 0) : implies_Plain_wp c K := by
  have hlen := p.good.len
  unfold implies_Plain_wp
  refine check_vc p.good ⟨fun q => absurd rfl (ne_t.1 q), fun _ => ?_⟩
  have e0 : ltN 0 c.mems.length = false := lt_f.2 (by rw [p.good.mems]; exact Nat.le_refl _)
  refine joinI ⟨fun q => absurd (q.symm.trans e0) (by decide), fun _ => ?_⟩
  refine of_vc (by omega) (by decide) ?_
  have e : ofN c [12, 13, 15] = [] := by
    unfold ofN
    rw [List.filter_eq_nil_iff]
    intro i m
    have hi := List.mem_range.1 m
    obtain ⟨y, hy⟩ := get_lt hi
    have := p.kinds i y hy
    rw [List.getD, List.getElem?_map, hy]
    simp
    omega
  rw [e]
  exact ⟨(fun q => by cases q), fun _ => h⟩
def freeN (c : Circ) : List Nat := (List.range c.nodes.length).filter fun i => isFree (kd c i)
theorem freeN_vc {c : Circ} {K : List Nat → Prop} (hc : c.nodes.length < 2 ^ 40) (h : K (freeN c)) : probecardlaw24_Free_wp c K := by
  unfold probecardlaw24_Free_wp
  refine joinLoop (fun s => s.2 ≤ c.nodes.length ∧ s.1 = (List.range s.2).filter fun i => isFree (kd c i)) (fun s => c.nodes.length - s.2) (fun a => a = freeN c) ?_ ⟨Nat.zero_le _, rfl⟩ (fun a e => by rw [e]; exact h)
  rintro k ⟨o, i⟩ nx ⟨hi, hI⟩ hnx hk
  dsimp only at hi hI
  refine ⟨fun q => ?_, fun q => ?_⟩
  · have q := lt_t.1 q
    (try dsimp only at q)
    obtain ⟨x, hx⟩ := get_lt q
    have hol : o.length ≤ i := by rw [hI]; exact Nat.le_trans (List.length_filter_le _ _) (by simp)
    have yes : isFree x.kind = true → (o.length + ([i] : List Nat).length) * 8 ≤ 2 ^ 47 ∧ i + 1 < 2 ^ 63 ∧ nx (o ++ [i], i + 1) := fun e => by
      refine ⟨by simp only [List.length_singleton]; omega, by omega, hnx _ ⟨q, ?_⟩ (by dsimp only; omega)⟩
      dsimp only
      rw [List.range_succ, List.filter_append, ← hI]
      simp only [List.filter_cons, kd_eq hx, e, if_true, List.filter_nil]
    have no : isFree x.kind = false → i + 1 < 2 ^ 63 ∧ nx (o, i + 1) := fun e => by
      refine ⟨by omega, hnx _ ⟨q, ?_⟩ (by dsimp only; omega)⟩
      dsimp only
      rw [List.range_succ, List.filter_append, ← hI]
      simp only [List.filter_cons, kd_eq hx, e, List.filter_nil]
      simp
    refine joinI (joinI ⟨x, hx, fun e => ⟨fun _ => yes ?_, (fun e => by cases e)⟩, fun e => ⟨x, hx, fun e2 => yes ?_, fun e2 => no ?_⟩⟩)
    · simp [isFree, eq_t.1 e]
    · simp [isFree, eq_t.1 e2]
    · have := eq_f.1 e
      have := eq_f.1 e2
      simp [isFree]; omega
  · have q := lt_f.1 q
    (try dsimp only at q)
    have : i = c.nodes.length := by omega
    subst this
    exact hk o hI
theorem notN_le (v : Nat) : notN v ≤ 2 := by unfold notN; split <;> omega
theorem decN_le {low high : Nat} (h1 : low ≤ 2) (h2 : high ≤ 2) : ∀ (l : List Nat) (o : Nat), o ≤ 2 → decN low high l o ≤ 2
  | [], o, h => h
  | v :: r, o, h => by
    unfold decN
    split
    · exact h1
    · refine decN_le h1 h2 r _ ?_
      split
      · exact h
      · exact Nat.le_refl _
theorem xorN_le : ∀ (l : List Nat) (o : Nat), o ≤ 1 → xorN l o ≤ 2
  | [], o, h => Nat.le_succ_of_le h
  | v :: r, o, h => by
    unfold xorN
    split
    · refine xorN_le r _ ?_
      have q1 : o = 0 ∨ o = 1 := by omega
      have q2 : v = 0 ∨ v = 1 := by omega
      rcases q1 with rfl | rfl <;> rcases q2 with rfl | rfl <;> simp
    · exact Nat.le_refl _
theorem evalN_le (k : Nat) (l : List Nat) : evalN k l ≤ 2 := by
  unfold evalN
  repeat' split
  all_goals first | omega | exact Nat.min_le_right _ _ | exact notN_le _ | exact decN_le (by decide) (by decide) _ _ (by decide) | exact xorN_le _ _ (by decide) | skip
  unfold muxN
  repeat' split
  all_goals first | exact Nat.min_le_right _ _ | exact Nat.le_refl _
/-- The values of a gate's inputs. -/
def insV (t : List Nat) (x : Node) : List Nat := x.ins.map fun k => t.getD k 0
theorem eval_node {c : Circ} (p : Pln c) {i : Nat} {x : Node} (hx : c.nodes[i]? = some x) (hf : isFree x.kind = false) {l : List Nat} (hl : l.length = x.ins.length) {K : Nat → Prop} (h : K (evalN x.kind l)) : logic_Eval_wp x.kind l K := by
  have g := p.good.node i x hx
  have := p.gate hx hf
  have hfew := g.few
  exact eval_vc this.1 (by omega) (by rw [hl]; exact g.arity) (by omega) h
/-- A total assignment. -/
structure TotOk (c : Circ) (b : Nat) (t : List Nat) : Prop where
  len : t.length = c.nodes.length
  free : ∀ j f, (freeN c)[j]? = some f → t.getD f 0 = b / 2 ^ j % 2
  gate : ∀ i x, c.nodes[i]? = some x → isFree x.kind = false → t.getD i 0 = evalN x.kind (insV t x)
  le : ∀ i, t.getD i 0 ≤ 2
theorem freeN_mem {c : Circ} {f : Nat} (h : f ∈ freeN c) : f < c.nodes.length ∧ isFree (kd c f) = true := by
  unfold freeN at h
  rw [List.mem_filter, List.mem_range] at h
  exact h
theorem freeN_nodup (c : Circ) : (freeN c).Nodup := List.Pairwise.filter _ List.nodup_range
theorem freeN_inj {c : Circ} {j j' f : Nat} (h : (freeN c)[j]? = some f) (h' : (freeN c)[j']? = some f) : j = j' := by
  obtain ⟨h1, h2⟩ := List.getElem?_eq_some_iff.1 h
  obtain ⟨h3, h4⟩ := List.getElem?_eq_some_iff.1 h'
  rcases Nat.lt_trichotomy j j' with q | q | q
  · exact absurd (h2.trans h4.symm) (List.pairwise_iff_getElem.1 (freeN_nodup c) j j' h1 h3 q)
  · exact q
  · exact absurd (h4.trans h2.symm) (List.pairwise_iff_getElem.1 (freeN_nodup c) j' j h3 h1 q)
/-- The first i nodes of the order have their values. -/
structure TotTo (c : Circ) (b : Nat) (o t : List Nat) (i : Nat) : Prop where
  len : t.length = c.nodes.length
  free : ∀ j f, (freeN c)[j]? = some f → t.getD f 0 = b / 2 ^ j % 2
  gate : ∀ j m (x : Node), j < i → o[j]? = some m → c.nodes[m]? = some x → isFree x.kind = false → t.getD m 0 = evalN x.kind (insV t x)
  le : ∀ i, t.getD i 0 ≤ 2
theorem ord_inj {c : Circ} {o : List Nat} (h : OrdOk c o) {a b m : Nat} (h1 : o[a]? = some m) (h2 : o[b]? = some m) : a = b := by
  have hn : o.Nodup := h.perm.nodup_iff.2 List.nodup_range
  obtain ⟨q1, q2⟩ := List.getElem?_eq_some_iff.1 h1
  obtain ⟨q3, q4⟩ := List.getElem?_eq_some_iff.1 h2
  rcases Nat.lt_trichotomy a b with q | q | q
  · exact absurd (q2.trans q4.symm) (List.pairwise_iff_getElem.1 hn a b q1 q3 q)
  · exact q
  · exact absurd (q4.trans q2.symm) (List.pairwise_iff_getElem.1 hn b a q3 q1 q)
theorem TotTo.skip {c : Circ} {b : Nat} {o t : List Nat} {i m : Nat} {x : Node} (T : TotTo c b o t i) (hm : o[i]? = some m) (hx : c.nodes[m]? = some x) (hf : isFree x.kind = true) : TotTo c b o t (i + 1) := by
  refine ⟨T.len, T.free, fun j m' x' hj ho hx' hf' => ?_, T.le⟩
  by_cases e : j = i
  · subst e
    rw [hm] at ho; cases ho
    rw [hx] at hx'; cases hx'
    rw [hf] at hf'; cases hf'
  · exact T.gate j m' x' (by omega) ho hx' hf'
theorem TotTo.step {c : Circ} (p : Pln c) {b : Nat} {o t : List Nat} (ho : OrdOk c o) {i m : Nat} {x : Node} (T : TotTo c b o t i) (hm : o[i]? = some m) (hx : c.nodes[m]? = some x) (hf : isFree x.kind = false) : TotTo c b o (t.set m (evalN x.kind (insV t x))) (i + 1) := by
  have hml : m < t.length := by rw [T.len]; exact lt_of_get hx
  have same : ∀ (j m' : Nat) (x' : Node), j ≤ i → o[j]? = some m' → c.nodes[m']? = some x' → isFree x'.kind = false → insV (t.set m (evalN x.kind (insV t x))) x' = insV t x' := by
    intro j m' x' hj h1 h2 h3
    unfold insV
    refine List.map_congr_left fun k hk => ?_
    rw [getD_set hml]
    by_cases e : m = k
    · subst e
      obtain ⟨b', hb, hb2⟩ := ho.before j m' x' m h1 h2 (p.comb h2 h3) hk
      have := ord_inj ho hb2 hm
      omega
    · rw [if_neg e]
  refine ⟨by rw [List.length_set]; exact T.len, fun j f hj => ?_, fun j m' x' hj h1 h2 h3 => ?_, fun k => ?_⟩
  · rw [getD_set hml, if_neg ?_]
    · exact T.free j f hj
    · rintro rfl
      have := (freeN_mem (List.mem_of_getElem? hj)).2
      rw [kd_eq hx, hf] at this
      cases this
  · rw [same j m' x' (by omega) h1 h2 h3, getD_set hml]
    by_cases e : m = m'
    · subst e
      rw [if_pos rfl]
      rw [hx] at h2; cases h2
      rfl
    · rw [if_neg e]
      refine T.gate j m' x' ?_ h1 h2 h3
      by_cases e2 : j = i
      · subst e2; rw [hm] at h1; cases h1; exact absurd rfl e
      · omega
  · rw [getD_set hml]
    split
    · exact evalN_le _ _
    · exact T.le k
theorem TotTo.done {c : Circ} {b : Nat} {o t : List Nat} (ho : OrdOk c o) {i : Nat} (T : TotTo c b o t i) (hi : o.length ≤ i) : TotOk c b t := by
  refine ⟨T.len, T.free, fun m x hx hf => ?_, T.le⟩
  have hm : m ∈ o := ho.perm.mem_iff.2 (List.mem_range.2 (lt_of_get hx))
  obtain ⟨j, hj, e⟩ := List.getElem_of_mem hm
  exact T.gate j m x (by omega) (by rw [List.getElem?_eq_getElem hj, e]) hx hf
theorem total_vc {c : Circ} (p : Pln c) {b : Nat} {K : List Nat → Prop} (h : ∀ t, TotOk c b t → K t) : probecardlaw24_Total_wp c b K := by
  have hlen := p.good.len
  unfold probecardlaw24_Total_wp
  refine ⟨by omega, by omega, freeN_vc (by omega) ?_⟩
  have hfl : (freeN c).length ≤ c.nodes.length := by unfold freeN; exact Nat.le_trans (List.length_filter_le _ _) (by simp)
  refine joinLoop (fun s => s.2 ≤ (freeN c).length ∧ s.1.length = c.nodes.length ∧ (∀ j f, j < s.2 → (freeN c)[j]? = some f → s.1.getD f 0 = b / 2 ^ j % 2) ∧ ∀ i, s.1.getD i 0 ≤ 1) (fun s => (freeN c).length - s.2)
    (fun t => t.length = c.nodes.length ∧ (∀ j f, (freeN c)[j]? = some f → t.getD f 0 = b / 2 ^ j % 2) ∧ ∀ i, t.getD i 0 ≤ 1) ?_ ⟨Nat.zero_le _, by simp, (fun j f hj => absurd hj (Nat.not_lt_zero _)), fun i => ?_⟩ ?_
  · rintro k ⟨t, i⟩ nx ⟨hi, h1, h2, h3⟩ hnx hk
    dsimp only at hi h1 h2 h3
    refine ⟨fun q => ?_, fun q => ?_⟩
    · have q := lt_t.1 q
      (try dsimp only at q)
      obtain ⟨f, hf⟩ := get_lt q
      have hfn := (freeN_mem (List.mem_of_getElem? hf)).1
      refine ⟨f, hf, by omega, by decide, hfn, _, getN h1 hfn, by omega, hnx _ ⟨q, by simp [h1], fun j f' hj hf' => ?_, fun k => ?_⟩ (by dsimp only; omega)⟩
      · dsimp only at hj ⊢
        rw [getD_set (by omega)]
        by_cases e : f = f'
        · subst e
          have := freeN_inj hf hf'
          subst this
          rw [if_pos rfl, Nat.mod_eq_of_lt (by omega : b / 2 ^ i % 2 < 256)]
        · rw [if_neg e]
          refine h2 j f' ?_ hf'
          by_cases e2 : j = i
          · subst e2; rw [hf] at hf'; cases hf'; exact absurd rfl e
          · omega
      · dsimp only
        rw [getD_set (by omega)]
        split
        · have := Nat.mod_lt (b / 2 ^ i) (show 0 < 2 by decide); omega
        · exact h3 k
    · have q := lt_f.1 q
      (try dsimp only at q)
      exact hk t ⟨h1, fun j f hj => h2 j f (by have := lt_of_get hj; omega) hj, h3⟩
  · dsimp only
    rw [List.getD, List.getElem?_replicate]
    split <;> simp
  rintro t0 ⟨h1, h2, h3⟩
  refine order_vc p.good fun o ho => ?_
  have hol : o.length = c.nodes.length := by have := ho.perm.length_eq; simpa using this
  refine joinLoop (fun s => s.2 ≤ o.length ∧ TotTo c b o s.1 s.2) (fun s => o.length - s.2) (fun t => TotOk c b t) ?_ ⟨Nat.zero_le _, h1, h2, (fun j m x hj => absurd hj (Nat.not_lt_zero _)), fun i => Nat.le_succ_of_le (h3 i)⟩ (fun t T => ⟨T.len.symm, h t T⟩)
  rintro k ⟨t, i⟩ nx ⟨hi, T⟩ hnx hk
  dsimp only at hi T
  refine ⟨fun q => ?_, fun q => ?_⟩
  · have q := lt_t.1 q
    (try dsimp only at q)
    obtain ⟨m, hm⟩ := get_lt q
    have hmn : m < c.nodes.length := List.mem_range.1 (ho.perm.mem_iff.1 (List.mem_of_getElem? hm))
    obtain ⟨x, hx⟩ := get_lt hmn
    have skip : isFree x.kind = true → i + 1 < 2 ^ 63 ∧ nx (t, i + 1) := fun e => ⟨by omega, hnx _ ⟨q, T.skip hm hx e⟩ (by dsimp only; omega)⟩
    refine joinI ⟨m, hm, joinI ⟨x, hx, fun e => ⟨fun _ => skip ?_, (fun e => by cases e)⟩, fun e => ⟨x, hx, fun e2 => skip ?_, fun e2 => ?_⟩⟩⟩
    · simp [isFree, eq_t.1 e]
    · simp [isFree, eq_t.1 e2]
    · have hf : isFree x.kind = false := by
        have := eq_f.1 e
        have := eq_f.1 e2
        simp [isFree]; omega
      have hg := p.good.node m x hx
      have hfew := hg.few
      refine joinLoop (fun s => s.2 ≤ x.ins.length ∧ s.1 = (insV t x).take s.2) (fun s => x.ins.length - s.2) (fun a => a = insV t x) ?_ ⟨Nat.zero_le _, by simp⟩ ?_
      · rintro k2 ⟨l, j⟩ nx2 ⟨hj, hl⟩ hnx2 hk2
        dsimp only at hj hl
        subst hl
        refine ⟨x, hx, fun q2 => ?_, fun q2 => ?_⟩
        · have q2 := lt_t.1 q2
          (try dsimp only at q2)
          obtain ⟨y, hy⟩ := get_lt q2
          have hyn := hg.ins y (List.mem_of_getElem? hy)
          have hv : (insV t x)[j]? = some (t.getD y 0) := by unfold insV; rw [List.getElem?_map, hy]; rfl
          obtain ⟨l1, l2⟩ := List.getElem?_eq_some_iff.1 hv
          refine ⟨x, hx, y, hy, hyn, _, getN T.len hyn, by simp only [List.length_take, List.length_singleton]; omega, by omega, hnx2 _ ⟨q2, ?_⟩ (by dsimp only; omega)⟩
          dsimp only
          rw [List.take_succ_eq_append_getElem l1, l2]
        · have q2 := lt_f.1 q2
          (try dsimp only at q2)
          exact hk2 _ (List.take_of_length_le (by unfold insV; rw [List.length_map]; exact q2))
      · rintro a rfl
        refine ⟨x, hx, eval_node p hx hf (by unfold insV; simp) ⟨hmn, _, getN T.len hmn, by omega, hnx _ ⟨q, T.step p ho hm hx hf⟩ (by dsimp only; omega)⟩⟩
  · have q := lt_f.1 q
    (try dsimp only at q)
    exact hk t (T.done ho q)
end Go.Proofs.YtfhldkgelipnaaaDoor

namespace Go.Proofs.YtfhldkgelipnaaaDoor
open Go.Abs
set_option maxRecDepth 100000
def plainC (x : CData) : CData := ⟨x.inp, x.dffs, x.data0, x.data1, false, false, x.port0, x.port1, x.port2, x.port3, x.gates, x.outs⟩
theorem plainC_ok {x : CData} (h : CB x) : CB (plainC x) := ⟨h.inp, h.dffs, h.data0, h.data1, h.port0, h.port1, h.port2, h.port3, h.gates, h.outs⟩
theorem pln_circ (x : CData) : Pln (circN (plainC x)) := ⟨good_circ rfl, plain_circ rfl rfl⟩
theorem circ_len (x : CData) : (circN (plainC x)).nodes.length ≤ 14 := by
  have h1 : (circN (plainC x)).nodes.length = (rawN (plainC x)).length := updN_length _
  have := rawN_le' (x := plainC x) rfl
  omega
theorem circ_free_lt (x : CData) {f : Nat} (h : f ∈ freeN (circN (plainC x))) : f < 6 := by
  obtain ⟨h1, h2⟩ := freeN_mem h
  obtain ⟨y, hy⟩ := get_lt h1
  rw [kd_eq hy] at h2
  have hm1 := Nat.mod_lt (plainC x).inp (show 0 < 4 by decide)
  have hm2 := Nat.mod_lt (plainC x).dffs (show 0 < 3 by decide)
  rcases circ_node rfl hy with ⟨q, _⟩ | ⟨_, q, _⟩ | ⟨q0, q1, g, hg⟩
  · omega
  · omega
  · have hpos : 0 < (((rawN (plainC x)).take f).map Node.kind).length := by
      rw [List.length_map, List.length_take]
      have := lt_of_get q1
      omega
    have G := gateK_ok (plainC x).bus g hpos
    rw [← hg] at G
    have := comb_gate (k := y.kind) ⟨G.kind1, G.kind⟩
    rw [this] at h2
    cases h2
theorem circ_free (x : CData) : (freeN (circN (plainC x))).length ≤ 6 := by
  have := nodup_len (freeN_nodup (circN (plainC x))) (m := List.range 6) fun f h => List.mem_range.2 (circ_free_lt x h)
  simpa using this
theorem small_vc {x : CData} (hx : CB x) {m : Nat} (hm : 6 ≤ m) {K : Circ × List Nat → Prop} (h : K (circN (plainC x), freeN (circN (plainC x)))) : probecardlaw24_Small_wp x m K := by
  have h1 := circ_len x
  have h2 := circ_free x
  unfold probecardlaw24_Small_wp law24_Plain_wp
  refine of_circ_vc (x := plainC x) (plainC_ok hx) rfl ?_
  refine freeN_vc (by omega) ?_
  refine joinI ⟨fun q => ?_, fun _ => ⟨fun q => ?_, fun _ => h⟩⟩
  · have := lt_t.1 q; omega
  · have := lt_t.1 q; omega
end Go.Proofs.YtfhldkgelipnaaaDoor

namespace Go.Proofs.YtfhldkgelipnaaaDoor
open Go.Abs
set_option maxRecDepth 100000
/-- All vectors of 0 .. b. -/
def vecN (b : Nat) : Nat → List (List Nat)
  | 0 => [[]]
  | n + 1 => (vecN b n).flatMap fun v => (List.range (b + 1)).map fun x => x :: v
theorem mem_vecN (b : Nat) : ∀ (l : List Nat), (∀ x ∈ l, x ≤ b) → l ∈ vecN b l.length
  | [], _ => by simp [vecN]
  | x :: l, h => by
    have ih := mem_vecN b l fun y m => h y (by simp [m])
    have hx := h x (by simp)
    simp only [vecN, List.length_cons, List.mem_flatMap]
    exact ⟨l, ih, List.mem_map.2 ⟨x, List.mem_range.2 (by omega), rfl⟩⟩
/-- The value v stands blw the value w. -/
def blw (v w : Nat) : Bool := Nat.beq v 2 || Nat.beq v w
def blwL : List Nat → List Nat → Bool
  | [], [] => true
  | a :: l, b :: m => blw a b && blwL l m
  | _, _ => false
def allN (p : Nat → Bool) : List Nat → Bool
  | [] => true
  | a :: l => p a && allN p l
def okG (k o : Nat) (l : List Nat) : Bool := match gateL (Int.ofNat k) (Int.ofNat o) (l.map Int.ofNat) with
  | none => true
  | some (v, r) => decide (0 ≤ v) && r.all fun x => decide (0 ≤ x)
def gateChk (k m : Nat) : Bool := (vecN 2 m).all fun l => (List.range 3).all fun o =>
  okG k o l &&
  (!(gateR k o l).2.2 || (Nat.ble (gateR k o l).1 2 && Nat.beq (gateR k o l).2.1.length m && allN (fun v => Nat.ble v 2) (gateR k o l).2.1)) &&
  ((vecN 1 m).all fun t => !(blw o (evalN k t) && blwL l t) || ((gateR k o l).2.2 && blw (gateR k o l).1 (evalN k t) && blwL (gateR k o l).2.1 t)) &&
  (!(allN (fun v => Nat.ble v 1) l && (gateR k o l).2.2) || Nat.beq (gateR k o l).1 (evalN k l))
def binChk (k m : Nat) : Bool := (vecN 1 m).all fun t => Nat.ble (evalN k t) 1
theorem gate_chk : ∀ m, m < 4 → ∀ k, k < 12 → 1 ≤ k → Arity k m → gateChk k m = true := by decide +kernel
theorem bin_chk : ∀ m, m < 4 → ∀ k, k < 12 → 1 ≤ k → Arity k m → binChk k m = true := by decide +kernel
def Blw (v w : Nat) : Prop := v = 2 ∨ v = w
theorem blw_iff {v w : Nat} : blw v w = true ↔ Blw v w := by
  unfold blw Blw
  rw [Bool.or_eq_true, Nat.beq_eq, Nat.beq_eq]
theorem blwL_iff : ∀ {l t : List Nat}, blwL l t = true ↔ l.length = t.length ∧ ∀ j, Blw (l.getD j 0) (t.getD j 0)
  | [], [] => by simp [blwL, Blw]
  | [], _ :: _ => by simp [blwL]
  | _ :: _, [] => by simp [blwL]
  | a :: l, b :: t => by
    unfold blwL
    rw [Bool.and_eq_true, blw_iff, blwL_iff (l := l) (t := t), List.length_cons, List.length_cons]
    refine ⟨fun ⟨h1, h2, h3⟩ => ⟨by omega, fun j => ?_⟩, fun ⟨h1, h2⟩ => ⟨h2 0, by omega, fun j => h2 (j + 1)⟩⟩
    cases j with
    | zero => exact h1
    | succ j => exact h3 j
theorem allN_iff {p : Nat → Bool} : ∀ {l : List Nat}, allN p l = true ↔ ∀ x ∈ l, p x = true
  | [] => by simp [allN]
  | a :: l => by
    unfold allN
    rw [Bool.and_eq_true, allN_iff (l := l)]
    simp
/-- What is used of Gate. -/
structure GF (k o : Nat) (l : List Nat) : Prop where
  ok : GateOk k o l
  le : (gateR k o l).2.2 = true → (gateR k o l).1 ≤ 2 ∧ (gateR k o l).2.1.length = l.length ∧ ∀ v ∈ (gateR k o l).2.1, v ≤ 2
  sound : ∀ t : List Nat, t.length = l.length → (∀ x ∈ t, x ≤ 1) → Blw o (evalN k t) → (∀ j, Blw (l.getD j 0) (t.getD j 0)) → (gateR k o l).2.2 = true ∧ Blw (gateR k o l).1 (evalN k t) ∧ ∀ j, Blw ((gateR k o l).2.1.getD j 0) (t.getD j 0)
  full : (∀ x ∈ l, x ≤ 1) → (gateR k o l).2.2 = true → (gateR k o l).1 = evalN k l
theorem okG_ok {k o : Nat} {l : List Nat} (h : okG k o l = true) : GateOk k o l := by
  unfold okG at h
  intro v r e
  rw [e] at h
  simp only [Bool.and_eq_true, decide_eq_true_eq, List.all_eq_true] at h
  exact h
theorem gf {k o : Nat} {l : List Nat} (h1 : 1 ≤ k) (hk : k ≤ 11) (ha : Arity k l.length) (hl : l.length ≤ 3) (ho : o ≤ 2) (hle : ∀ x ∈ l, x ≤ 2) : GF k o l := by
  have h := gate_chk l.length (by omega) k (by omega) h1 ha
  unfold gateChk at h
  have h := List.all_eq_true.1 h l (mem_vecN 2 l hle)
  have h := List.all_eq_true.1 h o (List.mem_range.2 (by omega))
  rw [Bool.and_eq_true, Bool.and_eq_true, Bool.and_eq_true] at h
  obtain ⟨⟨⟨q1, q2⟩, q3⟩, q4⟩ := h
  refine ⟨okG_ok q1, fun e => ?_, fun t ht ht1 b1 b2 => ?_, fun b e => ?_⟩
  · rw [e, Bool.or_eq_true, Bool.and_eq_true, Bool.and_eq_true] at q2
    rcases q2 with q2 | ⟨⟨a1, a2⟩, a3⟩
    · cases q2
    · exact ⟨Nat.le_of_ble_eq_true a1, Nat.eq_of_beq_eq_true a2, fun v m => Nat.le_of_ble_eq_true (allN_iff.1 a3 v m)⟩
  · have h := List.all_eq_true.1 q3 t (by rw [← ht]; exact mem_vecN 1 t ht1)
    rw [blw_iff.2 b1, blwL_iff.2 ⟨ht.symm, b2⟩] at h
    rw [Bool.or_eq_true, Bool.and_eq_true, Bool.and_eq_true, blw_iff, blwL_iff] at h
    rcases h with h | ⟨⟨a1, a2⟩, a3⟩
    · cases h
    · exact ⟨a1, a2, a3.2⟩
  · rw [e, allN_iff.2 (fun x m => Nat.ble_eq_true_of_le (b x m))] at q4
    rw [Bool.or_eq_true] at q4
    rcases q4 with q4 | q4
    · cases q4
    · exact Nat.eq_of_beq_eq_true q4
theorem eval_bin {k : Nat} {t : List Nat} (h1 : 1 ≤ k) (hk : k ≤ 11) (ha : Arity k t.length) (hl : t.length ≤ 3) (hle : ∀ x ∈ t, x ≤ 1) : evalN k t ≤ 1 := by
  have h := bin_chk t.length (by omega) k (by omega) h1 ha
  unfold binChk at h
  exact Nat.le_of_ble_eq_true (List.all_eq_true.1 h t (mem_vecN 1 t hle))
end Go.Proofs.YtfhldkgelipnaaaDoor

namespace Go.Proofs.YtfhldkgelipnaaaDoor
open Go.Abs
set_option maxRecDepth 100000
theorem put_vc {c : Circ} (g : Good c) {v w : List Nat} {m x : Nat} {K : Bool × List Nat × List Nat → Prop} (hv : v.length = c.nodes.length) (hm : m < c.nodes.length) (hw : w.length ≤ 2 ^ 30)
    (hA : (x = 2 ∨ v.getD m 0 = x) → K (true, v, w))
    (hB : x ≠ 2 → v.getD m 0 = 2 → K (true, v.set m x, w ++ m :: (fanOf c m).map Ln.node))
    (hC : x ≠ 2 → v.getD m 0 ≠ 2 → v.getD m 0 ≠ x → K (false, v, w)) :
    work_put_wp c.nodes c.names c.mems c.outs (fanL c) c.nodes.length v w m x K := by
  have hfl := fan_len g hm
  have hg := getN hv hm
  unfold work_put_wp
  have rest : ∀ (v' : List Nat), v'.getD m 0 = x → v'.length = c.nodes.length → K (true, v', w ++ m :: (fanOf c m).map Ln.node) → ∃ x11, v'[m]? = some x11 ∧ ((!(eqN x11 x)) = true → K (false, v', w)) ∧ ((!(eqN x11 x)) = false → (w.length + ([m] : List Nat).length) * 8 ≤ 2 ^ 47 ∧ joinW (α := List Nat) (fun k23 => ∃ x24, (fanL c)[m]? = some x24 ∧ loopW (S := (List Nat) × Nat) (fun (v28, v29) nx32 => ((ltN v29 x24.length) = true → ∃ x33, x24[v29]? = some x33 ∧ (v28.length + ([x33.node] : List Nat).length) * 8 ≤ 2 ^ 47 ∧ v29 + 1 < 2 ^ 63 ∧ nx32 ((v28 ++ ([x33.node] : List Nat)), (v29 + 1))) ∧ ((ltN v29 x24.length) = false → k23 v28)) ((w ++ ([m] : List Nat)), 0)) (fun v20 => K (true, v', v20))) := by
    intro v' hx hl h
    refine ⟨_, getN hl hm, fun q => absurd hx (neq_t.1 q), fun _ => ⟨by simp only [List.length_singleton]; omega, ?_⟩⟩
    refine joinI ⟨_, fanL_get hm, ?_⟩
    refine loopW_intro (fun s => s.2 ≤ (fanOf c m).length ∧ s.1 = w ++ m :: ((fanOf c m).take s.2).map Ln.node) (fun s => (fanOf c m).length - s.2) ?_ ⟨Nat.zero_le _, by simp⟩
    rintro ⟨l, j⟩ nx ⟨hj, hI⟩ hnx
    dsimp only at hj hI
    refine ⟨fun q => ?_, fun q => ?_⟩
    · have q := lt_t.1 q
      (try dsimp only at q)
      obtain ⟨y, hy⟩ := get_lt q
      obtain ⟨l1, l2⟩ := List.getElem?_eq_some_iff.1 hy
      refine ⟨y, hy, by rw [hI]; simp only [List.length_append, List.length_cons, List.length_map, List.length_take, List.length_nil]; omega, by omega, hnx _ ⟨q, ?_⟩ (by dsimp only; omega)⟩
      dsimp only
      rw [hI, List.take_succ_eq_append_getElem l1, l2, List.map_append, List.append_assoc]
      rfl
    · have q := lt_f.1 q
      (try dsimp only at q)
      rw [hI, List.take_of_length_le q]
      exact h
  refine joinI ⟨fun q => ⟨fun _ => hA (.inl (eq_t.1 q)), (fun e => by cases e)⟩, fun q => ⟨hm, _, hg, ⟨fun e => hA (.inr (eq_t.1 e)), fun e => ?_⟩⟩⟩
  have q := eq_f.1 q
  have e := eq_f.1 e
  refine ⟨hm, _, hg, joinI ⟨fun e2 => ?_, fun e2 => ?_⟩⟩
  · have e2 := eq_t.1 e2
    refine rest _ ?_ (by rw [List.length_set]; exact hv) (hB q e2)
    rw [getD_set (by omega), if_pos rfl]
  · have e2 := eq_f.1 e2
    exact ⟨_, hg, fun _ => hC q e2 e, fun e3 => absurd (neq_f.1 e3) e⟩
def Ext (given : List Asg) (t : List Nat) : Prop := ∀ a ∈ given, t.getD a.net 0 = a.value
/-- At this gate nothing more follows. -/
def ClosedAt (c : Circ) (v : List Nat) (i : Nat) : Prop := ∀ x, c.nodes[i]? = some x → isFree x.kind = false →
  (gateR x.kind (v.getD i 0) (insV v x)).2.2 = true ∧ Blw (gateR x.kind (v.getD i 0) (insV v x)).1 (v.getD i 0) ∧ ∀ j, Blw ((gateR x.kind (v.getD i 0) (insV v x)).2.1.getD j 0) ((insV v x).getD j 0)
/-- The total assignments that have the given values. -/
def TotE (c : Circ) (given : List Asg) (t : List Nat) : Prop := (∃ b, TotOk c b t) ∧ Ext given t
structure CI (c : Circ) (given : List Asg) (but : Nat → Prop) (v w : List Nat) : Prop where
  len : v.length = c.nodes.length
  le : ∀ i, v.getD i 0 ≤ 2
  wlt : ∀ i ∈ w, i < c.nodes.length
  bnd : v.count 2 * 1001 + w.length ≤ 2 ^ 30
  snd : ∀ t, TotE c given t → ∀ i, Blw (v.getD i 0) (t.getD i 0)
  cls : ∀ i, i < c.nodes.length → but i ∨ i ∈ w ∨ ClosedAt c v i
theorem fan_reads {c : Circ} {i m : Nat} {x : Node} (hx : c.nodes[i]? = some x) (h : m ∈ x.ins) : i ∈ (fanOf c m).map Ln.node := by
  have h1 := fan_count c m i
  rw [ins_eq hx] at h1
  have h2 : 0 < x.ins.count m := List.count_pos_iff.2 h
  rw [← h1, List.countP_pos_iff] at h2
  obtain ⟨l, hl, e⟩ := h2
  exact List.mem_map.2 ⟨l, hl, by simpa using e⟩
theorem count_set2 {v : List Nat} {m x : Nat} (hm : m < v.length) (h2 : v.getD m 0 = 2) (hx : x ≠ 2) : (v.set m x).count 2 + 1 = v.count 2 := by
  induction v generalizing m with
  | nil => exact absurd hm (Nat.not_lt_zero _)
  | cons a v ih =>
    cases m with
    | zero =>
      have : a = 2 := h2
      subst this
      rw [List.set_cons_zero, List.count_cons, List.count_cons]
      simp [hx]
    | succ m =>
      have := ih (m := m) (by simpa using hm) h2
      rw [List.set_cons_succ, List.count_cons, List.count_cons]
      omega
theorem CI.put {c : Circ} (g : Good c) {given : List Asg} {but : Nat → Prop} {v w : List Nat} (I : CI c given but v w) {m x : Nat} (hm : m < c.nodes.length) (h2 : v.getD m 0 = 2) (hx : x ≠ 2) (hle : x ≤ 2) (hs : ∀ t, TotE c given t → t.getD m 0 = x) :
    CI c given but (v.set m x) (w ++ m :: (fanOf c m).map Ln.node) ∧ (v.set m x).count 2 * 1001 + (w ++ m :: (fanOf c m).map Ln.node).length ≤ v.count 2 * 1001 + w.length := by
  have hml : m < v.length := by rw [I.len]; exact hm
  have hfl := fan_len g hm
  have hc := count_set2 hml h2 hx
  have hb := I.bnd
  have hlen : (w ++ m :: (fanOf c m).map Ln.node).length = w.length + 1 + (fanOf c m).length := by simp; omega
  have key : (v.set m x).count 2 * 1001 + (w ++ m :: (fanOf c m).map Ln.node).length ≤ v.count 2 * 1001 + w.length := by rw [hlen]; omega
  refine ⟨⟨by rw [List.length_set]; exact I.len, fun i => ?_, fun i hi => ?_, by omega, fun t ht i => ?_, fun i hi => ?_⟩, key⟩
  · rw [getD_set hml]
    split
    · exact hle
    · exact I.le i
  · rcases List.mem_append.1 hi with hi | hi
    · exact I.wlt i hi
    · rcases List.mem_cons.1 hi with rfl | hi
      · exact hm
      · obtain ⟨l, hl, rfl⟩ := List.mem_map.1 hi
        exact fan_lt hl
  · rw [getD_set hml]
    by_cases e : m = i
    · subst e; rw [if_pos rfl]; exact .inr (hs t ht).symm
    · rw [if_neg e]; exact I.snd t ht i
  · rcases I.cls i hi with q | q | q
    · exact .inl q
    · exact .inr (.inl (List.mem_append_left _ q))
    · by_cases e : m = i
      · subst e; exact .inr (.inl (by simp))
      · obtain ⟨y, hy⟩ := get_lt hi
        by_cases e2 : m ∈ y.ins
        · exact .inr (.inl (List.mem_append_right _ (List.mem_cons_of_mem _ (fan_reads hy e2))))
        · refine .inr (.inr fun y' hy' hf => ?_)
          rw [hy] at hy'; cases hy'
          have e3 : insV (v.set m x) y = insV v y := by
            unfold insV
            refine List.map_congr_left fun k hk => ?_
            rw [getD_set hml, if_neg (fun (q2 : m = k) => e2 (by rw [q2]; exact hk))]
          rw [e3, getD_set hml, if_neg e]
          exact q y hy hf
end Go.Proofs.YtfhldkgelipnaaaDoor

namespace Go.Proofs.YtfhldkgelipnaaaDoor
open Go.Abs
set_option maxRecDepth 100000
/-- Gates with at most 3 inputs. -/
def Few3 (c : Circ) : Prop := ∀ (i : Nat) (y : Node), c.nodes[i]? = some y → y.ins.length ≤ 3
theorem getD_out {l : List Nat} {i : Nat} (h : l.length ≤ i) : l.getD i 0 = 0 := by rw [List.getD, List.getElem?_eq_none h]; rfl
theorem insV_le {t : List Nat} {b : Nat} (h : ∀ i, t.getD i 0 ≤ b) (x : Node) : ∀ v ∈ insV t x, v ≤ b := by
  intro v m
  obtain ⟨k, _, rfl⟩ := List.mem_map.1 m
  exact h k
theorem tot_bin {c : Circ} (p : Pln c) (f3 : Few3 c) {b : Nat} {t : List Nat} (T : TotOk c b t) : ∀ i, t.getD i 0 ≤ 1 := by
  have key : ∀ n i, i < n → t.getD i 0 ≤ 1 := by
    intro n
    induction n with
    | zero => intro i h; exact absurd h (Nat.not_lt_zero _)
    | succ n ih =>
      intro i _
      by_cases hi : i < c.nodes.length
      · obtain ⟨x, hx⟩ := get_lt hi
        cases hf : isFree x.kind
        · have hg := p.gate hx hf
          have G := p.good.node i x hx
          rw [T.gate i x hx hf]
          refine eval_bin hg.1 hg.2 (by unfold insV; rw [List.length_map]; exact G.arity) (by unfold insV; rw [List.length_map]; exact f3 i x hx) fun v m => ?_
          obtain ⟨k, hk, rfl⟩ := List.mem_map.1 m
          have := G.acyc hg.1 (by omega) k hk
          exact ih k (by omega)
        · have hm : i ∈ freeN c := by
            unfold freeN
            rw [List.mem_filter, kd_eq hx]
            exact ⟨List.mem_range.2 hi, hf⟩
          obtain ⟨j, hj, e⟩ := List.getElem_of_mem hm
          rw [T.free j i (by rw [List.getElem?_eq_getElem hj, e])]
          have := Nat.mod_lt (b / 2 ^ j) (show 0 < 2 by decide)
          omega
      · rw [getD_out (by rw [T.len]; omega)]
        exact Nat.zero_le _
  exact fun i => key (i + 1) i (Nat.lt_succ_self i)
theorem insV_getD {t : List Nat} {x : Node} {j y : Nat} (hy : x.ins[j]? = some y) : (insV t x).getD j 0 = t.getD y 0 := by
  unfold insV; rw [List.getD, List.getElem?_map, hy]; rfl
theorem insV_len (t : List Nat) (x : Node) : (insV t x).length = x.ins.length := by unfold insV; simp
/-- What the walk over a gate's values keeps. -/
structure GS (c : Circ) (given : List Asg) (m : Nat) (v0 w0 : List Nat) (v w : List Nat) (done : Prop) : Prop where
  inv : CI c given (· = m) v w
  le : v.count 2 * 1001 + w.length ≤ v0.count 2 * 1001 + w0.length
  mono : ∀ i, v0.getD i 0 ≠ 2 → v.getD i 0 = v0.getD i 0
  or : m ∈ w ∨ (v = v0 ∧ done)
theorem GS.to {c : Circ} {given : List Asg} {m : Nat} {v0 w0 v w : List Nat} {d d' : Prop} (S : GS c given m v0 w0 v w d) (h : v = v0 → d → d') : GS c given m v0 w0 v w d' := ⟨S.inv, S.le, S.mono, S.or.imp_right fun ⟨a, b⟩ => ⟨a, h a b⟩⟩
/-- One derived value is put. -/
theorem gput_vc {c : Circ} (p : Pln c) {given : List Asg} {m : Nat} {v0 w0 v w : List Nat} {d : Prop} {y x : Nat} {K : Bool × List Nat × List Nat → Prop} (S : GS c given m v0 w0 v w d) (hy : y < c.nodes.length) (hx : x ≤ 2)
    (hs : ∀ t, TotE c given t → Blw x (t.getD y 0)) (hr : y = m ∨ ∃ z, c.nodes[m]? = some z ∧ y ∈ z.ins)
    (h1 : ∀ v' w', GS c given m v0 w0 v' w' (d ∧ Blw x (v0.getD y 0)) → K (true, v', w'))
    (h2 : ∀ v' w', (∀ t, ¬ TotE c given t) → K (false, v', w')) :
    work_put_wp c.nodes c.names c.mems c.outs (fanL c) c.nodes.length v w y x K := by
  have hb := S.inv.bnd
  refine put_vc p.good S.inv.len hy (by omega) (fun q => h1 v w (S.to fun e hd => ⟨hd, ?_⟩)) (fun q1 q2 => h1 _ _ ?_) (fun q1 q2 q3 => h2 _ _ fun t ht => ?_)
  · rcases q with q | q
    · exact .inl q
    · rw [e] at q; exact .inr q.symm
  · obtain ⟨I, hle⟩ := S.inv.put p.good hy q2 q1 hx fun t ht => ((hs t ht).resolve_left q1).symm
    refine ⟨I, Nat.le_trans hle S.le, fun i hi => ?_, .inl ?_⟩
    · have hyl : y < v.length := by rw [S.inv.len]; exact hy
      rw [getD_set hyl]
      by_cases e : y = i
      · subst e
        have := S.mono y hi
        rw [q2] at this
        exact absurd this.symm hi
      · rw [if_neg e]; exact S.mono i hi
    · rcases hr with rfl | ⟨z, hz, hm⟩
      · simp
      · exact List.mem_append_right _ (List.mem_cons_of_mem _ (fan_reads hz hm))
  · have a := (hs t ht).resolve_left q1
    have b := (S.inv.snd t ht y).resolve_left q2
    rw [a, b] at q3
    exact q3 rfl
end Go.Proofs.YtfhldkgelipnaaaDoor

namespace Go.Proofs.YtfhldkgelipnaaaDoor
open Go.Abs
set_option maxRecDepth 100000
theorem gate_vc {c : Circ} (p : Pln c) (f3 : Few3 c) {given : List Asg} {m : Nat} {v0 w0 : List Nat} {z : Node} {K : Bool × List Nat × List Nat → Prop} (hz : c.nodes[m]? = some z) (hf : isFree z.kind = false)
    (I : CI c given (· = m) v0 w0)
    (h1 : ∀ v w, CI c given (fun _ => False) v w → v.count 2 * 1001 + w.length ≤ v0.count 2 * 1001 + w0.length → (∀ i, v0.getD i 0 ≠ 2 → v.getD i 0 = v0.getD i 0) → K (true, v, w))
    (h2 : ∀ v w, (∀ t, ¬ TotE c given t) → K (false, v, w)) :
    work_gate_wp c.nodes c.names c.mems c.outs (fanL c) c.nodes.length v0 w0 m K := by
  have hm := lt_of_get hz
  have hg := p.gate hz hf
  have G := p.good.node m z hz
  have hl3 := f3 m z hz
  have hlen := p.good.len
  have F : GF z.kind (v0.getD m 0) (insV v0 z) := gf hg.1 hg.2 (by rw [insV_len]; exact G.arity) (by rw [insV_len]; exact hl3) (I.le m) (insV_le I.le z)
  have sound : ∀ t, TotE c given t → (gateR z.kind (v0.getD m 0) (insV v0 z)).2.2 = true ∧ Blw (gateR z.kind (v0.getD m 0) (insV v0 z)).1 (t.getD m 0) ∧ ∀ j, Blw ((gateR z.kind (v0.getD m 0) (insV v0 z)).2.1.getD j 0) ((insV t z).getD j 0) := by
    intro t ht
    obtain ⟨⟨b, T⟩, he⟩ := ht
    have hb := tot_bin p f3 T
    have e := T.gate m z hz hf
    rw [e]
    refine F.sound (insV t z) (by rw [insV_len, insV_len]) (insV_le hb z) ?_ fun j => ?_
    · rw [← e]; exact I.snd t ⟨⟨b, T⟩, he⟩ m
    · by_cases hj : j < z.ins.length
      · obtain ⟨y, hy⟩ := get_lt hj
        rw [insV_getD hy, insV_getD hy]
        exact I.snd t ⟨⟨b, T⟩, he⟩ y
      · rw [getD_out (by rw [insV_len]; omega), getD_out (by rw [insV_len]; omega)]
        exact .inr rfl
  unfold work_gate_wp
  refine ⟨z, hz, by omega, by omega, ?_⟩
  refine joinLoop (fun s => s.2 ≤ z.ins.length ∧ s.1.length = z.ins.length ∧ ∀ j, j < s.2 → s.1.getD j 0 = (insV v0 z).getD j 0) (fun s => z.ins.length - s.2) (fun a => a = insV v0 z) ?_ ⟨Nat.zero_le _, by simp, fun j hj => absurd hj (Nat.not_lt_zero _)⟩ ?_
  · rintro k2 ⟨l, j⟩ nx2 ⟨hj, hl, hI2⟩ hnx2 hk2
    dsimp only at hj hl hI2
    refine ⟨fun q2 => ?_, fun q2 => ?_⟩
    · have q2 := lt_t.1 q2
      (try dsimp only at q2)
      obtain ⟨y, hy⟩ := get_lt q2
      have hyn := G.ins y (List.mem_of_getElem? hy)
      refine ⟨y, hy, hyn, _, getN I.len hyn, q2, _, getN hl q2, by omega, hnx2 _ ⟨q2, by simpa using hl, fun j' hj' => ?_⟩ (by dsimp only; omega)⟩
      dsimp only at hj' ⊢
      rw [getD_set (by omega)]
      by_cases e : j = j'
      · subst e; rw [if_pos rfl, insV_getD hy]
      · rw [if_neg e]; exact hI2 j' (by omega)
    · have q2 := lt_f.1 q2
      (try dsimp only at q2)
      refine hk2 l (List.ext_getElem? fun j' => ?_)
      by_cases e : j' < z.ins.length
      · rw [getN hl e, getN (insV_len v0 z) e, hI2 j' (by omega)]
      · rw [List.getElem?_eq_none (by omega), List.getElem?_eq_none (by rw [insV_len]; omega)]
  rintro a rfl
  refine ⟨hm, _, getN I.len hm, (insV_len v0 z).symm, by omega, by rw [insV_len]; omega, F.ok, ?_⟩
  generalize hr : gateR z.kind (v0.getD m 0) (insV v0 z) = r at F sound ⊢
  have hle := F.le
  rw [hr] at hle
  refine joinI ⟨fun q => ⟨fun _ => h2 _ _ fun t ht => ?_, (fun e => by cases e)⟩, fun q => ?_⟩
  · have := (sound t ht).1
    rw [this] at q; cases q
  have hok : r.2.2 = true := by simpa using q
  obtain ⟨le1, le2, le3⟩ := hle hok
  have S0 : GS c given m v0 w0 v0 w0 True := ⟨I, Nat.le_refl _, fun _ _ => rfl, .inr ⟨rfl, trivial⟩⟩
  refine gput_vc p S0 hm le1 (fun t ht => (sound t ht).2.1) (.inl rfl) (fun v w S => ⟨(fun e => by cases e), fun _ => ?_⟩) (fun v w hn => ⟨fun _ => h2 _ _ hn, (fun e => by cases e)⟩)
  refine joinLoop (fun s => s.2.2 ≤ z.ins.length ∧ GS c given m v0 w0 s.1 s.2.1 ((True ∧ Blw r.1 (v0.getD m 0)) ∧ ∀ j, j < s.2.2 → Blw (r.2.1.getD j 0) ((insV v0 z).getD j 0))) (fun s => z.ins.length - s.2.2) (fun s => GS c given m v0 w0 s.1 s.2 ((True ∧ Blw r.1 (v0.getD m 0)) ∧ ∀ j, j < z.ins.length → Blw (r.2.1.getD j 0) ((insV v0 z).getD j 0))) ?_ ⟨Nat.zero_le _, S.to fun _ d => ⟨d, fun j hj => absurd hj (Nat.not_lt_zero _)⟩⟩ ?_
  · rintro k ⟨v, w, j⟩ nx ⟨hj, S⟩ hnx hk
    dsimp only at hj S
    refine ⟨fun q => ?_, fun q => ?_⟩
    · have q := lt_t.1 q
      (try dsimp only at q)
      obtain ⟨y, hy⟩ := get_lt q
      have hyn := G.ins y (List.mem_of_getElem? hy)
      have hjr : j < r.2.1.length := by rw [le2, insV_len]; exact q
      refine ⟨y, hy, _, getD_some hjr, gput_vc p S hyn (le3 _ (getD_mem hjr)) (fun t ht => ?_) (.inr ⟨z, hz, List.mem_of_getElem? hy⟩) (fun v' w' S' => ⟨(fun e => by cases e), fun _ => ⟨by omega, hnx _ ⟨q, ?_⟩ (by dsimp only; omega)⟩⟩) (fun v' w' hn => ⟨fun _ => h2 _ _ hn, (fun e => by cases e)⟩)⟩
      · have := (sound t ht).2.2 j
        rw [insV_getD hy] at this
        exact this
      · refine S'.to fun _ d => ⟨d.1.1, fun j' hj' => ?_⟩
        by_cases e : j' = j
        · subst e; rw [insV_getD hy]; exact d.2
        · exact d.1.2 j' (by dsimp only at hj'; omega)
    · have q := lt_f.1 q
      (try dsimp only at q)
      exact hk (v, w) (S.to fun _ d => ⟨d.1, fun j' hj' => d.2 j' (by omega)⟩)
  · rintro ⟨v, w⟩ S
    dsimp only at S
    have I2 := S.inv
    refine h1 v w ⟨I2.len, I2.le, I2.wlt, I2.bnd, I2.snd, fun i hi => ?_⟩ S.le S.mono
    rcases I2.cls i hi with q | q
    · subst q
      rcases S.or with q | ⟨rfl, ⟨_, d1⟩, d2⟩
      · exact .inr (.inl q)
      · refine .inr (.inr fun z' hz' _ => ?_)
        rw [hz] at hz'; cases hz'
        rw [hr]
        refine ⟨hok, d1, fun j => ?_⟩
        by_cases e : j < z.ins.length
        · exact d2 j e
        · rw [getD_out (by rw [le2, insV_len]; omega), getD_out (by rw [insV_len]; omega)]
          exact .inr rfl
    · exact .inr q
end Go.Proofs.YtfhldkgelipnaaaDoor

namespace Go.Proofs.YtfhldkgelipnaaaDoor
open Go.Abs
set_option maxRecDepth 100000
/-- What Close returns. -/
structure CloseOk (c : Circ) (given : List Asg) (v : List Nat) : Prop where
  len : v.length = c.nodes.length
  le : ∀ i, v.getD i 0 ≤ 2
  snd : ∀ t, TotE c given t → ∀ i, Blw (v.getD i 0) (t.getD i 0)
  cls : ∀ i, i < c.nodes.length → ClosedAt c v i
  giv : ∀ a ∈ given, v.getD a.net 0 = a.value
theorem close_vc {c : Circ} (p : Pln c) (f3 : Few3 c) {given : List Asg} (hg : ∀ a ∈ given, a.net < c.nodes.length ∧ a.value ≤ 1) (hl : given.length < 2 ^ 60) {K : List Nat × Bool × Nat → Prop}
    (h1 : ∀ v, CloseOk c given v → K (v, true, 0)) (h2 : (∀ t, ¬ TotE c given t) → K ([], false, 0)) : implies_Close_wp c given K := by
  have hlen := p.good.len
  unfold implies_Close_wp
  refine plain_vc p ⟨fun q => absurd rfl (ne_t.1 q), fun _ => ?_⟩
  refine search_none (l := given) ?_ ?_ ?_
  · intro k i nx a ha hi hn
    obtain ⟨g1, g2⟩ := hg a (List.mem_of_getElem? ha)
    refine ⟨fun _ => ⟨a, ha, joinI ⟨fun q => absurd (lt_t.1 q) (Nat.not_lt_zero _), fun _ => ⟨fun q => absurd (nlt_t.1 q) (by omega), fun _ => known_vc ?_⟩⟩⟩, fun q => ?_⟩
    · rw [decide_eq_true g2]
      exact ⟨(fun e => by cases e), fun _ => ⟨by omega, hn⟩⟩
    · have := lt_f.1 q; omega
  · intro k i nx hi hk
    refine ⟨fun q => ?_, fun _ => hk⟩
    have := lt_t.1 q; omega
  refine fanout_vc p.good.fanOk ⟨by omega, by omega, ?_⟩
  refine joinLoop (fun s => s.2.2 ≤ c.nodes.length ∧ s.1.length = c.nodes.length ∧ (∀ j, j < s.2.2 → s.1.getD j 0 = 2) ∧ s.2.1 = List.range s.2.2) (fun s => c.nodes.length - s.2.2) (fun s => s.1.length = c.nodes.length ∧ (∀ j, j < c.nodes.length → s.1.getD j 0 = 2) ∧ s.2 = List.range c.nodes.length) ?_ ⟨Nat.zero_le _, by simp, (fun j hj => absurd hj (Nat.not_lt_zero _)), rfl⟩ ?_
  · rintro k ⟨v, w, i⟩ nx ⟨hi, h3, h4, h5⟩ hnx hk
    dsimp only at hi h3 h4 h5
    refine ⟨fun q => ?_, fun q => ?_⟩
    · have q := lt_t.1 q
      (try dsimp only at q)
      refine ⟨q, _, getN h3 q, by rw [h5]; simp only [List.length_range, List.length_singleton]; omega, by omega, hnx _ ⟨q, by simpa using h3, fun j hj => ?_, ?_⟩ (by dsimp only; omega)⟩
      · dsimp only at hj ⊢
        rw [getD_set (by omega)]
        by_cases e : i = j
        · rw [if_pos e]
        · rw [if_neg e]; exact h4 j (by omega)
      · dsimp only
        rw [h5, List.range_succ]
    · have q := lt_f.1 q
      (try dsimp only at q)
      have : i = c.nodes.length := by omega
      subst this
      exact hk (v, w) ⟨h3, h4, h5⟩
  rintro ⟨v, w⟩ ⟨h3, h4, h5⟩
  dsimp only at h3 h4 h5
  subst h5
  have I0 : CI c given (fun _ => False) v (List.range c.nodes.length) := by
    refine ⟨h3, fun i => ?_, fun i m => List.mem_range.1 m, ?_, fun t ht i => ?_, fun i hi => .inr (.inl (List.mem_range.2 hi))⟩
    · by_cases e : i < c.nodes.length
      · rw [h4 i e]; exact Nat.le_refl _
      · rw [getD_out (by omega)]; exact Nat.zero_le _
    · have : v.count 2 ≤ v.length := List.count_le_length
      rw [List.length_range]; omega
    · by_cases e : i < c.nodes.length
      · exact .inl (h4 i e)
      · obtain ⟨⟨b, T⟩, _⟩ := ht
        rw [getD_out (by omega), getD_out (by rw [T.len]; omega)]
        exact .inr rfl
  refine joinLoop (fun s => s.2.2 ≤ given.length ∧ CI c given (fun _ => False) s.1 s.2.1 ∧ ∀ a ∈ given.take s.2.2, s.1.getD a.net 0 = a.value) (fun s => given.length - s.2.2) (fun s => CI c given (fun _ => False) s.1 s.2 ∧ ∀ a ∈ given, s.1.getD a.net 0 = a.value) ?_ ⟨Nat.zero_le _, I0, fun a m => by simp at m⟩ ?_
  · rintro k ⟨v, w, i⟩ nx ⟨hi, I, hv⟩ hnx hk
    dsimp only at hi I hv
    refine ⟨fun q => ?_, fun q => ?_⟩
    · have q := lt_t.1 q
      (try dsimp only at q)
      obtain ⟨a, ha⟩ := get_lt q
      obtain ⟨l1, l2⟩ := List.getElem?_eq_some_iff.1 ha
      have hmem := List.mem_of_getElem? ha
      obtain ⟨g1, g2⟩ := hg a hmem
      have hb := I.bnd
      have tk : ∀ a' ∈ given.take (i + 1), a' ∈ given.take i ∨ a' = a := by
        intro a' m
        rw [List.take_succ_eq_append_getElem l1, l2] at m
        rcases List.mem_append.1 m with m | m
        · exact .inl m
        · exact .inr (List.mem_singleton.1 m)
      refine ⟨a, ha, put_vc p.good I.len g1 (by omega) (fun e => ⟨(fun e2 => by cases e2), fun _ => ⟨by omega, hnx _ ⟨q, I, fun a' m => ?_⟩ (by dsimp only; omega)⟩⟩) (fun e1 e2 => ⟨(fun e3 => by cases e3), fun _ => ⟨by omega, hnx _ ⟨q, (I.put p.good g1 e2 e1 (by omega) fun t ht => ht.2 a hmem).1, fun a' m => ?_⟩ (by dsimp only; omega)⟩⟩) (fun e1 e2 e3 => ⟨fun _ => h2 fun t ht => ?_, (fun e => by cases e)⟩)⟩
      · rcases tk a' m with m | rfl
        · exact hv a' m
        · rcases e with e | e
          · omega
          · exact e
      · have hnl : a.net < v.length := by rw [I.len]; exact g1
        dsimp only
        rw [getD_set hnl]
        rcases tk a' m with m | rfl
        · have e4 := hv a' m
          by_cases e : a.net = a'.net
          · have := (hg a' (List.mem_of_mem_take m)).2
            rw [← e, e2] at e4
            omega
          · rw [if_neg e]; exact e4
        · rw [if_pos rfl]
      · have b1 := (I.snd t ht a.net).resolve_left e2
        rw [ht.2 a hmem] at b1
        exact e3 b1
    · have q := lt_f.1 q
      (try dsimp only at q)
      exact hk (v, w) ⟨I, fun a m => hv a (by rw [List.take_of_length_le q]; exact m)⟩
  rintro ⟨v, w⟩ ⟨I, hv⟩
  dsimp only at I hv
  refine joinLoop (fun s => CI c given (fun _ => False) s.1 s.2 ∧ ∀ a ∈ given, s.1.getD a.net 0 = a.value) (fun s => s.1.count 2 * 1001 + s.2.length) (fun s => CloseOk c given s.1) ?_ ⟨I, hv⟩ ?_
  · rintro k ⟨v, w⟩ nx ⟨I, hv⟩ hnx hk
    dsimp only at I hv
    refine ⟨fun q => ?_, fun q => ?_⟩
    · have q := lt_t.1 q
      (try dsimp only at q)
      obtain ⟨m, w', rfl⟩ : ∃ m w', w = m :: w' := by
        cases w with
        | nil => exact absurd q (Nat.lt_irrefl _)
        | cons m w' => exact ⟨m, w', rfl⟩
      have hm := I.wlt m (by simp)
      obtain ⟨z, hz⟩ := get_lt hm
      have hb := I.bnd
      rw [List.length_cons] at hb
      refine ⟨m, rfl, by rw [List.length_cons]; omega, z, hz, free_vc ⟨fun e => ?_, fun e => ?_⟩⟩
      · refine hnx _ ⟨⟨I.len, I.le, fun i hi => I.wlt i (List.mem_cons_of_mem _ hi), by simp only [List.drop_succ_cons, List.drop_zero]; omega, I.snd, fun i hi => ?_⟩, hv⟩ (by simp)
        rcases I.cls i hi with r | r | r
        · exact .inl r
        · rcases List.mem_cons.1 r with rfl | r
          · refine .inr (.inr fun z' hz' hf => ?_)
            rw [hz] at hz'; cases hz'
            rw [e] at hf; cases hf
          · exact .inr (.inl r)
        · exact .inr (.inr r)
      · have I' : CI c given (· = m) v w' := by
          refine ⟨I.len, I.le, fun i hi => I.wlt i (List.mem_cons_of_mem _ hi), by omega, I.snd, fun i hi => ?_⟩
          rcases I.cls i hi with r | r | r
          · exact r.elim
          · rcases List.mem_cons.1 r with rfl | r
            · exact .inl rfl
            · exact .inr (.inl r)
          · exact .inr (.inr r)
        refine gate_vc p f3 hz e I' (fun v2 w2 I2 hle hmono => ⟨(fun e2 => by cases e2), fun _ => hnx _ ⟨I2, fun a ha => ?_⟩ ?_⟩) (fun v2 w2 hn => ⟨fun _ => h2 hn, (fun e2 => by cases e2)⟩)
        · have e3 := hv a ha
          have := (hg a ha).2
          have e4 := hmono a.net (by omega)
          dsimp only
          rw [e4, e3]
        · dsimp only
          have e5 : (m :: w').length = w'.length + 1 := List.length_cons
          have hle : v2.count 2 * 1001 + w2.length ≤ v.count 2 * 1001 + w'.length := hle
          omega
    · have q := lt_f.1 q
      (try dsimp only at q)
      have e : w = [] := List.length_eq_zero_iff.1 (by omega)
      subst e
      refine hk (v, []) ⟨I.len, I.le, I.snd, fun i hi => ?_, hv⟩
      rcases I.cls i hi with r | r | r
      · exact r.elim
      · cases r
      · exact r
  · rintro ⟨v, w⟩ C
    exact ⟨C.len.symm, h1 v C⟩
end Go.Proofs.YtfhldkgelipnaaaDoor

namespace Go.Proofs.YtfhldkgelipnaaaDoor
open Go.Abs
set_option maxRecDepth 100000
def givenN (n : Nat) (l : List U2) : List Asg := l.map fun u => ⟨u.a % n, u.b % 2⟩
theorem given_vc {n : Nat} {l : List U2} (hn : 0 < n) (hl : ∀ u ∈ l, u.a < 256) (hlen : l.length ≤ 6) {K : List Asg → Prop} (h : K (givenN n l)) : probecardlaw24_Given_wp n l K := by
  unfold probecardlaw24_Given_wp
  refine joinLoop (fun s => s.2 ≤ l.length ∧ s.1 = givenN n (l.take s.2)) (fun s => l.length - s.2) (fun a => a = givenN n l) ?_ ⟨Nat.zero_le _, by simp [givenN]⟩ (fun a e => by rw [e]; exact h)
  rintro k ⟨o, i⟩ nx ⟨hi, hI⟩ hnx hk
  dsimp only at hi hI
  refine joinI ⟨fun q => ⟨fun _ => ?_, fun e => ?_⟩, fun q => ⟨(fun e => by cases e), fun _ => ?_⟩⟩
  · have q := lt_t.1 q
    (try dsimp only at q)
    obtain ⟨u, hu⟩ := get_lt q
    obtain ⟨l1, l2⟩ := List.getElem?_eq_some_iff.1 hu
    refine ⟨u, hu, hl u (List.mem_of_getElem? hu), hn, u, hu, by decide, by rw [hI]; simp only [givenN, List.length_map, List.length_take, List.length_singleton]; omega, by omega, hnx _ ⟨q, ?_⟩ (by dsimp only; omega)⟩
    dsimp only
    rw [hI, List.take_succ_eq_append_getElem l1, l2]
    unfold givenN
    rw [List.map_append]
    rfl
  · exact absurd (lt_f.1 e) (by omega)
  · have q := lt_f.1 q
    (try dsimp only at q)
    exact hk o (by rw [hI, List.take_of_length_le q])
theorem given_ok {n : Nat} {l : List U2} (hn : 0 < n) : ∀ a ∈ givenN n l, a.net < n ∧ a.value ≤ 1 := by
  intro a m
  obtain ⟨u, _, rfl⟩ := List.mem_map.1 m
  refine ⟨Nat.mod_lt _ hn, ?_⟩
  have := Nat.mod_lt u.b (show 0 < 2 by decide)
  dsimp only
  omega
theorem has_vc {t : List Nat} {given : List Asg} (hg : ∀ a ∈ given, a.net < t.length) (hl : given.length < 2 ^ 60) {K : Bool → Prop} (h1 : Ext given t → K true) (h2 : ¬ Ext given t → K false) : probecardlaw24_has_wp t given K := by
  unfold probecardlaw24_has_wp
  refine joinLoop (fun i => i ≤ given.length ∧ Ext (given.take i) t) (fun i => given.length - i) (fun _ => Ext given t) ?_ ⟨Nat.zero_le _, fun a m => by simp at m⟩ (fun _ e => h1 e)
  rintro k i nx ⟨hi, hI⟩ hnx hk
  refine ⟨fun q => ?_, fun q => ?_⟩
  · have q := lt_t.1 q
    obtain ⟨a, ha⟩ := get_lt q
    obtain ⟨l1, l2⟩ := List.getElem?_eq_some_iff.1 ha
    have hm := List.mem_of_getElem? ha
    refine ⟨a, ha, _, getD_some (hg a hm), a, ha, fun e => h2 fun E => ne_t.1 e (E a hm), fun e => ⟨by omega, hnx _ ⟨q, fun b m => ?_⟩ (by omega)⟩⟩
    rw [List.take_succ_eq_append_getElem l1, l2] at m
    rcases List.mem_append.1 m with m | m
    · exact hI b m
    · rw [List.mem_singleton.1 m]; exact ne_f.1 e
  · have q := lt_f.1 q
    exact hk () (by rw [List.take_of_length_le q] at hI; exact hI)
/-- Where all free values are known, what is closed is the total assignment. -/
theorem closed_tot {c : Circ} (p : Pln c) (f3 : Few3 c) {given : List Asg} {v : List Nat} (C : CloseOk c given v) {b : Nat} {t : List Nat} (T : TotOk c b t) (hfree : ∀ f ∈ freeN c, v.getD f 0 = t.getD f 0) : ∀ i, v.getD i 0 = t.getD i 0 := by
  have hb := tot_bin p f3 T
  have key : ∀ n i, i < n → v.getD i 0 = t.getD i 0 := by
    intro n
    induction n with
    | zero => intro i h; exact absurd h (Nat.not_lt_zero _)
    | succ n ih =>
      intro i _
      by_cases hi : i < c.nodes.length
      · obtain ⟨x, hx⟩ := get_lt hi
        cases hf : isFree x.kind
        · have hg := p.gate hx hf
          have G := p.good.node i x hx
          have e : insV v x = insV t x := by
            unfold insV
            refine List.map_congr_left fun k hk => ?_
            have := G.acyc hg.1 (by omega) k hk
            exact ih k (by omega)
          obtain ⟨h1, h2, _⟩ := C.cls i hi x hx hf
          have F : GF x.kind (v.getD i 0) (insV v x) := gf hg.1 hg.2 (by rw [insV_len]; exact G.arity) (by rw [insV_len]; exact f3 i x hx) (C.le i) (insV_le C.le x)
          have e1 := F.full (by rw [e]; exact insV_le hb x) h1
          rw [e1, e, ← T.gate i x hx hf] at h2
          have := hb i
          rcases h2 with h2 | h2
          · omega
          · exact h2.symm
        · refine hfree i ?_
          unfold freeN
          rw [List.mem_filter, kd_eq hx]
          exact ⟨List.mem_range.2 hi, hf⟩
      · rw [getD_out (by rw [C.len]; omega), getD_out (by rw [T.len]; omega)]
  exact fun i => key (i + 1) i (Nat.lt_succ_self i)
theorem gateK_few (bus : Bool) (g : GData) (ks : List Nat) : (gateK bus g ks).ins.length ≤ 3 := by
  unfold gateK
  generalize (if bus then g.kind % 13 else g.kind % 9) = kk
  repeat' split
  all_goals simp only
  all_goals first | (simp; done) | (split <;> simp)
theorem circ_few3 {x : CData} (hm : x.mem = false) : Few3 (circN x) := by
  intro i y h
  rcases circ_node hm h with ⟨_, rfl⟩ | ⟨_, _, d, _, rfl⟩ | ⟨_, _, g, rfl⟩
  · exact Nat.zero_le _
  · show (1 : Nat) ≤ 3; decide
  · exact gateK_few _ _ _
end Go.Proofs.YtfhldkgelipnaaaDoor

namespace Go.Proofs.YtfhldkgelipnaaaDoor
open Go.Abs
set_option maxRecDepth 100000
theorem circ_pos (x : CData) : 0 < (circN (plainC x)).nodes.length := by
  have h1 : (circN (plainC x)).nodes.length = (rawN (plainC x)).length := updN_length _
  rw [h1]; exact rawN_pos _
/-- The values that the free nodes take in assignment b. -/
def freeA (c : Circ) (b i : Nat) : List Asg := ((freeN c).take i).zipIdx.map fun p => ⟨p.1, b / 2 ^ p.2 % 2⟩
theorem freeA_succ {c : Circ} {b i f : Nat} (h : (freeN c)[i]? = some f) : freeA c b (i + 1) = freeA c b i ++ [⟨f, b / 2 ^ i % 2⟩] := by
  obtain ⟨l1, l2⟩ := List.getElem?_eq_some_iff.1 h
  unfold freeA
  rw [List.take_succ_eq_append_getElem l1, l2, List.zipIdx_append, List.map_append]
  congr 1
  simp only [List.zipIdx_cons, List.zipIdx_nil, List.map_cons, List.map_nil, List.length_take]
  rw [show 0 + min i (freeN c).length = i by omega]
theorem freeA_mem {c : Circ} {b i : Nat} {a : Asg} (h : a ∈ freeA c b i) : ∃ j, (freeN c)[j]? = some a.net ∧ a.value = b / 2 ^ j % 2 := by
  obtain ⟨⟨f, j⟩, m, rfl⟩ := List.mem_map.1 h
  have h1 := List.mem_zipIdx' m
  have h2 := h1.2
  refine ⟨j, ?_, rfl⟩
  have h3 := h1.1
  rw [List.length_take] at h3
  show (freeN c)[j]? = some f
  rw [List.getElem?_eq_getElem (by omega)]
  rw [List.getElem_take] at h2
  exact congrArg some h2.symm
theorem freeA_all {c : Circ} {b f : Nat} (h : f ∈ freeN c) : ∃ a ∈ freeA c b (freeN c).length, a.net = f := by
  obtain ⟨j, hj, e⟩ := List.getElem_of_mem h
  refine ⟨⟨f, b / 2 ^ j % 2⟩, ?_, rfl⟩
  unfold freeA
  rw [List.take_length]
  refine List.mem_map.2 ⟨(f, j), ?_, rfl⟩
  rw [List.mk_mem_zipIdx_iff_getElem?, List.getElem?_eq_getElem hj, e]
/-- What Close returns, either way. -/
inductive CloseR (c : Circ) (given : List Asg) : List Nat × Bool × Nat → Prop
  | ok (v : List Nat) (C : CloseOk c given v) : CloseR c given (v, true, 0)
  | no (h : ∀ t, ¬ TotE c given t) : CloseR c given ([], false, 0)
theorem close_res {c : Circ} (p : Pln c) (f3 : Few3 c) {given : List Asg} (hg : ∀ a ∈ given, a.net < c.nodes.length ∧ a.value ≤ 1) (hl : given.length < 2 ^ 60) {K : List Nat × Bool × Nat → Prop}
    (h : ∀ r, CloseR c given r → K r) : implies_Close_wp c given K :=
  close_vc p f3 hg hl (fun v C => h _ (.ok v C)) (fun n => h _ (.no n))
theorem CloseR.err {c : Circ} {given : List Asg} {r : List Nat × Bool × Nat} (R : CloseR c given r) : r.2.2 = 0 := by cases R <;> rfl
theorem CloseR.yes {c : Circ} {given : List Asg} {r : List Nat × Bool × Nat} (R : CloseR c given r) (h : r.2.1 = true) : CloseOk c given r.1 := by
  cases R with
  | ok v C => exact C
  | no _ => cases h
theorem CloseR.not {c : Circ} {given : List Asg} {r : List Nat × Bool × Nat} (R : CloseR c given r) (h : r.2.1 = false) : r.1 = [] ∧ ∀ t, ¬ TotE c given t := by
  cases R with
  | ok v C => cases h
  | no q => exact ⟨rfl, q⟩
theorem impliesSound_vc {x : CData} (hx : CB x) {l : List U2} (hl : ∀ u ∈ l, u.a < 256) {n : Nat} (hn : n < 256) : probecardlaw24_ImpliesSound_wp x l n (· = true) := by
  unfold probecardlaw24_ImpliesSound_wp
  refine small_vc hx (by decide) ?_
  dsimp only
  have p := pln_circ x
  have f3 : Few3 (circN (plainC x)) := circ_few3 rfl
  have hlen := circ_len x
  have hfree := circ_free x
  have hpos := circ_pos x
  generalize circN (plainC x) = c at p f3 hlen hfree hpos ⊢
  refine ⟨fun _ => rfl, fun q => given_vc hpos hl (lt_f.1 q) ?_⟩
  have hg := given_ok (n := c.nodes.length) (l := l) hpos
  have hgl : (givenN c.nodes.length l).length ≤ 6 := by unfold givenN; rw [List.length_map]; exact lt_f.1 q
  clear q hl
  generalize givenN c.nodes.length l = given at hg hgl ⊢
  refine close_res p f3 hg (by omega) fun r R => ?_
  refine joinB (a := false) (fun F => ⟨fun q => absurd R.err (ne_t.1 q), fun _ => ⟨fun q1 => ⟨fun q2 => absurd (R.yes q1).len (ne_t.1 q2), fun _ => ⟨fun q3 => (by rw [q1] at q3; cases q3), fun _ => F⟩⟩, fun q1 => ⟨fun _ => ?_, fun q3 => (by rw [q1] at q3; cases q3)⟩⟩⟩) ⟨(fun e => by cases e), fun _ => ?_⟩
  · have e : ltN 0 r.1.length = false := by rw [(R.not q1).1]; rfl
    rw [e]; exact F
  refine joinLoop (fun b => b ≤ 2 ^ (freeN c).length) (fun b => 2 ^ (freeN c).length - b) (fun _ => True) ?_ (Nat.zero_le _) ?_
  · intro k b nx hb hnx hk
    refine ⟨by omega, fun q => ?_, fun _ => hk () trivial⟩
    have q := lt_t.1 q
    have hb63 : 2 ^ (freeN c).length ≤ 2 ^ 16 := Nat.pow_le_pow_right (by decide) (by omega)
    have next : b + 1 < 2 ^ 63 ∧ nx (b + 1) := ⟨by omega, hnx _ q (by omega)⟩
    refine joinI (total_vc p fun t T => has_vc (fun a m => by rw [T.len]; exact (hg a m).1) (by omega) (fun E => ⟨(fun e => by cases e), fun _ => ⟨fun q1 => ?_, fun q1 => ?_⟩⟩) (fun _ => ⟨fun _ => next, (fun e => by cases e)⟩))
    · have q1 : r.2.1 = false := by simpa using q1
      exact absurd ⟨⟨b, T⟩, E⟩ ((R.not q1).2 t)
    · have q1 : r.2.1 = true := by simpa using q1
      have C := R.yes q1
      refine loopW_intro (fun i => i ≤ t.length) (fun i => t.length - i) (fun i nx2 hi hnx2 => ⟨fun q2 => ?_, fun _ => next⟩) (Nat.zero_le _)
      have q2 := lt_t.1 q2
      have tl := T.len
      have hi' : i < c.nodes.length := by omega
      have B := C.snd t ⟨⟨b, T⟩, E⟩ i
      refine joinB (a := false) (fun F => ⟨_, getN C.len hi', fun q3 => ⟨_, getN C.len hi', _, getN tl hi', ?_⟩, fun _ => F⟩) ⟨(fun e => by cases e), fun _ => ⟨by omega, hnx2 _ q2 (by omega)⟩⟩
      rw [ne_f.2 (B.resolve_left (ne_t.1 q3))]
      exact F
  intro _ _
  have hpw : 0 < 2 ^ (freeN c).length := Nat.two_pow_pos _
  refine ⟨hn, by omega, hpw, total_vc p fun t T => ⟨by simp only [List.length_nil]; omega, ?_⟩⟩
  generalize n % 2 ^ (freeN c).length = b at T ⊢
  refine joinLoop (fun s => s.2 ≤ (freeN c).length ∧ s.1 = given ++ freeA c b s.2) (fun s => (freeN c).length - s.2) (fun a => a = given ++ freeA c b (freeN c).length) ?_ ⟨Nat.zero_le _, by simp [freeA]⟩ ?_
  · rintro k ⟨a, i⟩ nx ⟨hi, hI⟩ hnx hk
    dsimp only at hi hI
    refine ⟨fun q => ?_, fun q => ?_⟩
    · have q := lt_t.1 q
      (try dsimp only at q)
      obtain ⟨f, hf⟩ := get_lt q
      have hal : a.length ≤ given.length + i := by rw [hI]; simp only [freeA, List.length_append, List.length_map, List.length_zipIdx, List.length_take]; omega
      have hv : b / 2 ^ i % 2 % 256 = b / 2 ^ i % 2 := Nat.mod_eq_of_lt (by omega)
      refine ⟨f, hf, by omega, by decide, by simp only [List.length_singleton]; omega, by omega, hnx _ ⟨q, ?_⟩ (by dsimp only; omega)⟩
      dsimp only
      rw [hI, freeA_succ hf, List.append_assoc, hv]
    · have q := lt_f.1 q
      (try dsimp only at q)
      have : i = (freeN c).length := by omega
      subst this
      exact hk a hI
  rintro a rfl
  have hall : ∀ a ∈ given ++ freeA c b (freeN c).length, a.net < c.nodes.length ∧ a.value ≤ 1 := by
    intro a m
    rcases List.mem_append.1 m with m | m
    · exact hg a m
    · obtain ⟨j, h1, h2⟩ := freeA_mem m
      exact ⟨(freeN_mem (List.mem_of_getElem? h1)).1, by omega⟩
  have tl := T.len
  have hgt : ∀ a ∈ given, a.net < t.length := fun a m => by rw [tl]; exact (hg a m).1
  refine close_res p f3 hall (by simp only [freeA, List.length_append, List.length_map, List.length_zipIdx, List.length_take]; omega) fun r2 R2 => ?_
  cases R2 with
  | ok v C =>
    have ev := closed_tot p f3 C T fun f hf => by
      obtain ⟨a, m, e⟩ := freeA_all (b := b) hf
      obtain ⟨j, h1, h2⟩ := freeA_mem m
      rw [← e, C.giv a (List.mem_append_right _ m), h2, T.free j _ h1]
    have E : Ext given t := fun a m => by rw [← ev, C.giv a (List.mem_append_left _ m)]
    refine joinB (a := false) (fun F => ⟨(fun q => absurd rfl (ne_t.1 q)), fun _ => has_vc hgt (by omega) (fun _ => ⟨(fun q => by cases q), fun _ => ⟨fun _ => ?_, fun _ => F⟩⟩) (fun nE => absurd E nE)⟩) ⟨(fun e => by cases e), fun _ => ?_⟩
    · rw [ne_f.2 (show v.length = t.length by rw [C.len, tl])]; exact F
    refine joinLoop (fun i => i ≤ t.length) (fun i => t.length - i) (fun _ => True) ?_ (Nat.zero_le _) (fun _ _ => rfl)
    intro k i nx hi hnx hk
    by_cases c1 : i < t.length
    · refine joinB (a := true) (fun F => ⟨fun _ => F, fun q => absurd (lt_f.1 q) (by omega)⟩) ⟨fun _ => ⟨_, getN C.len (by omega), _, getN tl (by omega), fun q => absurd (ev i) (ne_t.1 q), fun _ => ⟨by omega, hnx _ c1 (by omega)⟩⟩, (fun e => by cases e)⟩
    · refine joinB (a := false) (fun F => ⟨fun q => absurd (lt_t.1 q) c1, fun _ => F⟩) ⟨(fun e => by cases e), fun _ => hk () trivial⟩
  | no hno =>
    have nE : ¬ Ext given t := fun E => hno t ⟨⟨b, T⟩, fun a m => by
      rcases List.mem_append.1 m with m | m
      · exact E a m
      · obtain ⟨j, h1, h2⟩ := freeA_mem m
        rw [T.free j _ h1, h2]⟩
    refine joinB (a := false) (fun F => ⟨(fun q => absurd rfl (ne_t.1 q)), fun _ => has_vc hgt (by omega) (fun E => absurd E nE) (fun _ => ⟨(fun q => by cases q), fun _ => ⟨(fun q => by cases q), fun _ => F⟩⟩)⟩) ⟨(fun e => by cases e), fun _ => ?_⟩
    refine joinLoop (fun i => i ≤ t.length) (fun i => t.length - i) (fun _ => True) ?_ (Nat.zero_le _) (fun _ _ => rfl)
    intro k i nx hi hnx hk
    refine joinB (a := false) (fun F => ⟨fun _ => F, fun _ => F⟩) ⟨(fun e => by cases e), fun _ => hk () trivial⟩
end Go.Proofs.YtfhldkgelipnaaaDoor

namespace Go.Proofs.YtfhldkgelipnaaaDoor
open Go.Abs
set_option maxRecDepth 100000
def shU2 : Sh := .pair shB (.pair shB .unit)
theorem pairs_arg {l : List shU2.Den} (w : (Sh.slice shU2).wf l) : ∃ m : List U2, (∀ v ∈ m, v.a < 256 ∧ v.b < 256) ∧ (Sh.slice shU2).cellsF l = [encL 2 encU2 m] := by
  obtain ⟨_, w2⟩ := w
  obtain ⟨m, h1, h2, _⟩ := list_of (f := fun x => elV shU2.one (shU2.cellsF x)) (g := encU2) (p := fun v => v.a < 256 ∧ v.b < 256) l fun x hx => by
    obtain ⟨a, b, u⟩ := x
    obtain ⟨wa, wb, _⟩ := w2 _ hx
    obtain ⟨a, q1, rfl⟩ := byte_of wa
    obtain ⟨b, q2, rfl⟩ := byte_of wb
    exact ⟨⟨a, b⟩, ⟨q1, q2⟩, rfl⟩
  refine ⟨m, h1, ?_⟩
  show [FL 2 (l.map fun x => elV shU2.one (shU2.cellsF x))] = _
  rw [h2]; rfl
def impliesSound_sh : List (Sh × Bool) := [(shC, true), (.slice shU2, false), (shB, false)]
theorem impliesSound_call (x : DenL impliesSound_sh) (w : wfL impliesSound_sh x) : FnV Tryd.prog NG vars 4 ⟨argL impliesSound_sh x⟩ (.bool true) := by
  obtain ⟨c, vs, n, u⟩ := x
  obtain ⟨wc, wv, wn, _⟩ := w
  obtain ⟨y, hy, e1⟩ := c_arg wc
  obtain ⟨l, hl, e2⟩ := pairs_arg wv
  obtain ⟨n, hn, rfl⟩ := byte_of wn
  have e : argL impliesSound_sh (c, vs, Int.ofNat n, u) = [encC y, encL 2 encU2 l, n8 n] := by
    show [elV (!true) (shC.cellsF c), elV (!false) ((Sh.slice shU2).cellsF vs), elV (!false) (shB.cellsF (Int.ofNat n))] = _
    rw [e1, e2]; rfl
  rw [e]
  exact FnV.of_walk (enc := Value.bool) (r := true) (PureV.flat rfl) fun h hB => probecardlaw24_ImpliesSound_walk (impliesSound_vc hy (fun u m => (hl u m).1) hn) hB
end Go.Proofs.YtfhldkgelipnaaaDoor
