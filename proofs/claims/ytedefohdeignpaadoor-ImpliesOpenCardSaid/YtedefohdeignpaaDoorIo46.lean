/-
  P9, Pa, ImpliesOpen: parts of the proof.
-/
import Derived.Test.YtedefohdeignpaaDoorIo45
namespace Go.Proofs.YtedefohdeignpaaDoor
open Go.Abs
set_option maxRecDepth 100000
/-- A plain circuit that is fine. -/
structure Pln (c : Circ) : Prop where
  good : Good c
  kinds : ∀ (i : Nat) (y : Node), c.nodes[i]? = some y → y.kind ≠ 12 ∧ y.kind ≠ 13 ∧ y.kind ≠ 15
def isFree (k : Nat) : Bool := k == 0 || k == 14
theorem Pln.gate {c : Circ} (p : Pln c) {i : Nat} {y : Node} (h : c.nodes[i]? = some y) (hf : isFree y.kind = false) : 1 ≤ y.kind ∧ y.kind ≤ 11 := by
  have := p.kinds i y h
  have := (p.good.node i y h).kind
  simp only [isFree, Bool.or_eq_false_iff, beq_eq_false_iff_ne] at hf
  omega
theorem Pln.comb {c : Circ} (p : Pln c) {i : Nat} {y : Node} (h : c.nodes[i]? = some y) (hf : isFree y.kind = false) : isComb y.kind := by
  have := p.gate h hf
  exact ⟨this.1, by omega⟩
theorem comb_gate {k : Nat} (h : isComb k) : isFree k = false := by
  obtain ⟨h1, h2⟩ := h
  simp only [isFree, Bool.or_eq_false_iff, beq_eq_false_iff_ne]
  omega
theorem free_vc {k : Nat} {K : Bool → Prop} (h : K (isFree k)) : implies_free_wp k K := by
  unfold implies_free_wp
  have e : isFree k = (eqN k 0 || eqN k 14) := by unfold isFree; rw [Bool.eq_iff_iff]; simp [eqN_eq]
  rw [e] at h
  refine ⟨fun q => by rw [q] at h; exact h, fun q => by rw [q] at h; exact h⟩
theorem plain_vc {c : Circ} {K : Nat → Prop} (p : Pln c) (h : K 0) : implies_Plain_wp c K := by
  have hlen := p.good.len
  unfold implies_Plain_wp
  refine check_vc p.good ⟨fun q => absurd rfl (ne_t.1 q), fun _ => ?_⟩
  have e0 : ltN 0 c.mems.length = false := lt_f.2 (by rw [p.good.mems]; exact Nat.le_refl _)
  refine joinI ⟨fun q => absurd (q.symm.trans e0) (by decide), fun _ => ?_⟩
  refine of_vc (by omega) (by decide) ?_
  have e : ofN c [12, 13, 15] = [] := by
    unfold ofN
    rw [List.filter_eq_nil_iff]
    intro i m
    have hi := List.mem_range.1 m
    obtain ⟨y, hy⟩ := get_lt hi
    have := p.kinds i y hy
    rw [List.getD, List.getElem?_map, hy]
    simp
    omega
  rw [e]
  exact ⟨(fun q => by cases q), fun _ => h⟩
def freeN (c : Circ) : List Nat := (List.range c.nodes.length).filter fun i => isFree (kd c i)
theorem freeN_vc {c : Circ} {K : List Nat → Prop} (hc : c.nodes.length < 2 ^ 40) (h : K (freeN c)) : probecardlaw24_Free_wp c K := by
  unfold probecardlaw24_Free_wp
  refine joinLoop (fun s => s.2 ≤ c.nodes.length ∧ s.1 = (List.range s.2).filter fun i => isFree (kd c i)) (fun s => c.nodes.length - s.2) (fun a => a = freeN c) ?_ ⟨Nat.zero_le _, rfl⟩ (fun a e => by rw [e]; exact h)
  rintro k ⟨o, i⟩ nx ⟨hi, hI⟩ hnx hk
  dsimp only at hi hI
  refine ⟨fun q => ?_, fun q => ?_⟩
  · have q := lt_t.1 q
    (try dsimp only at q)
    obtain ⟨x, hx⟩ := get_lt q
    have hol : o.length ≤ i := by rw [hI]; exact Nat.le_trans (List.length_filter_le _ _) (by simp)
    have yes : isFree x.kind = true → (o.length + ([i] : List Nat).length) * 8 ≤ 2 ^ 47 ∧ i + 1 < 2 ^ 63 ∧ nx (o ++ [i], i + 1) := fun e => by
      refine ⟨by simp only [List.length_singleton]; omega, by omega, hnx _ ⟨q, ?_⟩ (by dsimp only; omega)⟩
      dsimp only
      rw [List.range_succ, List.filter_append, ← hI]
      simp only [List.filter_cons, kd_eq hx, e, if_true, List.filter_nil]
    have no : isFree x.kind = false → i + 1 < 2 ^ 63 ∧ nx (o, i + 1) := fun e => by
      refine ⟨by omega, hnx _ ⟨q, ?_⟩ (by dsimp only; omega)⟩
      dsimp only
      rw [List.range_succ, List.filter_append, ← hI]
      simp only [List.filter_cons, kd_eq hx, e, List.filter_nil]
      simp
    refine joinI (joinI ⟨x, hx, fun e => ⟨fun _ => yes ?_, (fun e => by cases e)⟩, fun e => ⟨x, hx, fun e2 => yes ?_, fun e2 => no ?_⟩⟩)
    · simp [isFree, eq_t.1 e]
    · simp [isFree, eq_t.1 e2]
    · have := eq_f.1 e
      have := eq_f.1 e2
      simp [isFree]; omega
  · have q := lt_f.1 q
    (try dsimp only at q)
    have : i = c.nodes.length := by omega
    subst this
    exact hk o hI
theorem notN_le (v : Nat) : notN v ≤ 2 := by unfold notN; split <;> omega
theorem decN_le {low high : Nat} (h1 : low ≤ 2) (h2 : high ≤ 2) : ∀ (l : List Nat) (o : Nat), o ≤ 2 → decN low high l o ≤ 2
  | [], o, h => h
  | v :: r, o, h => by
    unfold decN
    split
    · exact h1
    · refine decN_le h1 h2 r _ ?_
      split
      · exact h
      · exact Nat.le_refl _
theorem xorN_le : ∀ (l : List Nat) (o : Nat), o ≤ 1 → xorN l o ≤ 2
  | [], o, h => Nat.le_succ_of_le h
  | v :: r, o, h => by
    unfold xorN
    split
    · refine xorN_le r _ ?_
      have q1 : o = 0 ∨ o = 1 := by omega
      have q2 : v = 0 ∨ v = 1 := by omega
      rcases q1 with rfl | rfl <;> rcases q2 with rfl | rfl <;> simp
    · exact Nat.le_refl _
theorem evalN_le (k : Nat) (l : List Nat) : evalN k l ≤ 2 := by
  unfold evalN
  repeat' split
  all_goals first | omega | exact Nat.min_le_right _ _ | exact notN_le _ | exact decN_le (by decide) (by decide) _ _ (by decide) | exact xorN_le _ _ (by decide) | skip
  unfold muxN
  repeat' split
  all_goals first | exact Nat.min_le_right _ _ | exact Nat.le_refl _
/-- The values of a gate's inputs. -/
def insV (t : List Nat) (x : Node) : List Nat := x.ins.map fun k => t.getD k 0
theorem eval_node {c : Circ} (p : Pln c) {i : Nat} {x : Node} (hx : c.nodes[i]? = some x) (hf : isFree x.kind = false) {l : List Nat} (hl : l.length = x.ins.length) {K : Nat → Prop} (h : K (evalN x.kind l)) : logic_Eval_wp x.kind l K := by
  have g := p.good.node i x hx
  have := p.gate hx hf
  have hfew := g.few
  exact eval_vc this.1 (by omega) (by rw [hl]; exact g.arity) (by omega) h
/-- A total assignment. -/
structure TotOk (c : Circ) (b : Nat) (t : List Nat) : Prop where
  len : t.length = c.nodes.length
  free : ∀ j f, (freeN c)[j]? = some f → t.getD f 0 = b / 2 ^ j % 2
  gate : ∀ i x, c.nodes[i]? = some x → isFree x.kind = false → t.getD i 0 = evalN x.kind (insV t x)
  le : ∀ i, t.getD i 0 ≤ 2
theorem freeN_mem {c : Circ} {f : Nat} (h : f ∈ freeN c) : f < c.nodes.length ∧ isFree (kd c f) = true := by
  unfold freeN at h
  rw [List.mem_filter, List.mem_range] at h
  exact h
theorem freeN_nodup (c : Circ) : (freeN c).Nodup := List.Pairwise.filter _ List.nodup_range
theorem freeN_inj {c : Circ} {j j' f : Nat} (h : (freeN c)[j]? = some f) (h' : (freeN c)[j']? = some f) : j = j' := by
  obtain ⟨h1, h2⟩ := List.getElem?_eq_some_iff.1 h
  obtain ⟨h3, h4⟩ := List.getElem?_eq_some_iff.1 h'
  rcases Nat.lt_trichotomy j j' with q | q | q
  · exact absurd (h2.trans h4.symm) (List.pairwise_iff_getElem.1 (freeN_nodup c) j j' h1 h3 q)
  · exact q
  · exact absurd (h4.trans h2.symm) (List.pairwise_iff_getElem.1 (freeN_nodup c) j' j h3 h1 q)
/-- The first i nodes of the order have their values. -/
structure TotTo (c : Circ) (b : Nat) (o t : List Nat) (i : Nat) : Prop where
  len : t.length = c.nodes.length
  free : ∀ j f, (freeN c)[j]? = some f → t.getD f 0 = b / 2 ^ j % 2
  gate : ∀ j m (x : Node), j < i → o[j]? = some m → c.nodes[m]? = some x → isFree x.kind = false → t.getD m 0 = evalN x.kind (insV t x)
  le : ∀ i, t.getD i 0 ≤ 2
theorem ord_inj {c : Circ} {o : List Nat} (h : OrdOk c o) {a b m : Nat} (h1 : o[a]? = some m) (h2 : o[b]? = some m) : a = b := by
  have hn : o.Nodup := h.perm.nodup_iff.2 List.nodup_range
  obtain ⟨q1, q2⟩ := List.getElem?_eq_some_iff.1 h1
  obtain ⟨q3, q4⟩ := List.getElem?_eq_some_iff.1 h2
  rcases Nat.lt_trichotomy a b with q | q | q
  · exact absurd (q2.trans q4.symm) (List.pairwise_iff_getElem.1 hn a b q1 q3 q)
  · exact q
  · exact absurd (q4.trans q2.symm) (List.pairwise_iff_getElem.1 hn b a q3 q1 q)
theorem TotTo.skip {c : Circ} {b : Nat} {o t : List Nat} {i m : Nat} {x : Node} (T : TotTo c b o t i) (hm : o[i]? = some m) (hx : c.nodes[m]? = some x) (hf : isFree x.kind = true) : TotTo c b o t (i + 1) := by
  refine ⟨T.len, T.free, fun j m' x' hj ho hx' hf' => ?_, T.le⟩
  by_cases e : j = i
  · subst e
    rw [hm] at ho; cases ho
    rw [hx] at hx'; cases hx'
    rw [hf] at hf'; cases hf'
  · exact T.gate j m' x' (by omega) ho hx' hf'
theorem TotTo.step {c : Circ} (p : Pln c) {b : Nat} {o t : List Nat} (ho : OrdOk c o) {i m : Nat} {x : Node} (T : TotTo c b o t i) (hm : o[i]? = some m) (hx : c.nodes[m]? = some x) (hf : isFree x.kind = false) : TotTo c b o (t.set m (evalN x.kind (insV t x))) (i + 1) := by
  have hml : m < t.length := by rw [T.len]; exact lt_of_get hx
  have same : ∀ (j m' : Nat) (x' : Node), j ≤ i → o[j]? = some m' → c.nodes[m']? = some x' → isFree x'.kind = false → insV (t.set m (evalN x.kind (insV t x))) x' = insV t x' := by
    intro j m' x' hj h1 h2 h3
    unfold insV
    refine List.map_congr_left fun k hk => ?_
    rw [getD_set hml]
    by_cases e : m = k
    · subst e
      obtain ⟨b', hb, hb2⟩ := ho.before j m' x' m h1 h2 (p.comb h2 h3) hk
      have := ord_inj ho hb2 hm
      omega
    · rw [if_neg e]
  refine ⟨by rw [List.length_set]; exact T.len, fun j f hj => ?_, fun j m' x' hj h1 h2 h3 => ?_, fun k => ?_⟩
  · rw [getD_set hml, if_neg ?_]
    · exact T.free j f hj
    · rintro rfl
      have := (freeN_mem (List.mem_of_getElem? hj)).2
      rw [kd_eq hx, hf] at this
      cases this
  · rw [same j m' x' (by omega) h1 h2 h3, getD_set hml]
    by_cases e : m = m'
    · subst e
      rw [if_pos rfl]
      rw [hx] at h2; cases h2
      rfl
    · rw [if_neg e]
      refine T.gate j m' x' ?_ h1 h2 h3
      by_cases e2 : j = i
      · subst e2; rw [hm] at h1; cases h1; exact absurd rfl e
      · omega
  · rw [getD_set hml]
    split
    · exact evalN_le _ _
    · exact T.le k
theorem TotTo.done {c : Circ} {b : Nat} {o t : List Nat} (ho : OrdOk c o) {i : Nat} (T : TotTo c b o t i) (hi : o.length ≤ i) : TotOk c b t := by
  refine ⟨T.len, T.free, fun m x hx hf => ?_, T.le⟩
  have hm : m ∈ o := ho.perm.mem_iff.2 (List.mem_range.2 (lt_of_get hx))
  obtain ⟨j, hj, e⟩ := List.getElem_of_mem hm
  exact T.gate j m x (by omega) (by rw [List.getElem?_eq_getElem hj, e]) hx hf
theorem total_vc {c : Circ} (p : Pln c) {b : Nat} {K : List Nat → Prop} (h : ∀ t, TotOk c b t → K t) : probecardlaw24_Total_wp c b K := by
  have hlen := p.good.len
  unfold probecardlaw24_Total_wp
  refine ⟨by omega, by omega, freeN_vc (by omega) ?_⟩
  have hfl : (freeN c).length ≤ c.nodes.length := by unfold freeN; exact Nat.le_trans (List.length_filter_le _ _) (by simp)
  refine joinLoop (fun s => s.2 ≤ (freeN c).length ∧ s.1.length = c.nodes.length ∧ (∀ j f, j < s.2 → (freeN c)[j]? = some f → s.1.getD f 0 = b / 2 ^ j % 2) ∧ ∀ i, s.1.getD i 0 ≤ 1) (fun s => (freeN c).length - s.2)
    (fun t => t.length = c.nodes.length ∧ (∀ j f, (freeN c)[j]? = some f → t.getD f 0 = b / 2 ^ j % 2) ∧ ∀ i, t.getD i 0 ≤ 1) ?_ ⟨Nat.zero_le _, by simp, (fun j f hj => absurd hj (Nat.not_lt_zero _)), fun i => ?_⟩ ?_
  · rintro k ⟨t, i⟩ nx ⟨hi, h1, h2, h3⟩ hnx hk
    dsimp only at hi h1 h2 h3
    refine ⟨fun q => ?_, fun q => ?_⟩
    · have q := lt_t.1 q
      (try dsimp only at q)
      obtain ⟨f, hf⟩ := get_lt q
      have hfn := (freeN_mem (List.mem_of_getElem? hf)).1
      refine ⟨f, hf, by omega, by decide, hfn, _, getN h1 hfn, by omega, hnx _ ⟨q, by simp [h1], fun j f' hj hf' => ?_, fun k => ?_⟩ (by dsimp only; omega)⟩
      · dsimp only at hj ⊢
        rw [getD_set (by omega)]
        by_cases e : f = f'
        · subst e
          have := freeN_inj hf hf'
          subst this
          rw [if_pos rfl, Nat.mod_eq_of_lt (by omega : b / 2 ^ i % 2 < 256)]
        · rw [if_neg e]
          refine h2 j f' ?_ hf'
          by_cases e2 : j = i
          · subst e2; rw [hf] at hf'; cases hf'; exact absurd rfl e
          · omega
      · dsimp only
        rw [getD_set (by omega)]
        split
        · have := Nat.mod_lt (b / 2 ^ i) (show 0 < 2 by decide); omega
        · exact h3 k
    · have q := lt_f.1 q
      (try dsimp only at q)
      exact hk t ⟨h1, fun j f hj => h2 j f (by have := lt_of_get hj; omega) hj, h3⟩
  · dsimp only
    rw [List.getD, List.getElem?_replicate]
    split <;> simp
  rintro t0 ⟨h1, h2, h3⟩
  refine order_vc p.good fun o ho => ?_
  have hol : o.length = c.nodes.length := by have := ho.perm.length_eq; simpa using this
  refine joinLoop (fun s => s.2 ≤ o.length ∧ TotTo c b o s.1 s.2) (fun s => o.length - s.2) (fun t => TotOk c b t) ?_ ⟨Nat.zero_le _, h1, h2, (fun j m x hj => absurd hj (Nat.not_lt_zero _)), fun i => Nat.le_succ_of_le (h3 i)⟩ (fun t T => ⟨T.len.symm, h t T⟩)
  rintro k ⟨t, i⟩ nx ⟨hi, T⟩ hnx hk
  dsimp only at hi T
  refine ⟨fun q => ?_, fun q => ?_⟩
  · have q := lt_t.1 q
    (try dsimp only at q)
    obtain ⟨m, hm⟩ := get_lt q
    have hmn : m < c.nodes.length := List.mem_range.1 (ho.perm.mem_iff.1 (List.mem_of_getElem? hm))
    obtain ⟨x, hx⟩ := get_lt hmn
    have skip : isFree x.kind = true → i + 1 < 2 ^ 63 ∧ nx (t, i + 1) := fun e => ⟨by omega, hnx _ ⟨q, T.skip hm hx e⟩ (by dsimp only; omega)⟩
    refine joinI ⟨m, hm, joinI ⟨x, hx, fun e => ⟨fun _ => skip ?_, (fun e => by cases e)⟩, fun e => ⟨x, hx, fun e2 => skip ?_, fun e2 => ?_⟩⟩⟩
    · simp [isFree, eq_t.1 e]
    · simp [isFree, eq_t.1 e2]
    · have hf : isFree x.kind = false := by
        have := eq_f.1 e
        have := eq_f.1 e2
        simp [isFree]; omega
      have hg := p.good.node m x hx
      have hfew := hg.few
      refine joinLoop (fun s => s.2 ≤ x.ins.length ∧ s.1 = (insV t x).take s.2) (fun s => x.ins.length - s.2) (fun a => a = insV t x) ?_ ⟨Nat.zero_le _, by simp⟩ ?_
      · rintro k2 ⟨l, j⟩ nx2 ⟨hj, hl⟩ hnx2 hk2
        dsimp only at hj hl
        subst hl
        refine ⟨x, hx, fun q2 => ?_, fun q2 => ?_⟩
        · have q2 := lt_t.1 q2
          (try dsimp only at q2)
          obtain ⟨y, hy⟩ := get_lt q2
          have hyn := hg.ins y (List.mem_of_getElem? hy)
          have hv : (insV t x)[j]? = some (t.getD y 0) := by unfold insV; rw [List.getElem?_map, hy]; rfl
          obtain ⟨l1, l2⟩ := List.getElem?_eq_some_iff.1 hv
          refine ⟨x, hx, y, hy, hyn, _, getN T.len hyn, by simp only [List.length_take, List.length_singleton]; omega, by omega, hnx2 _ ⟨q2, ?_⟩ (by dsimp only; omega)⟩
          dsimp only
          rw [List.take_succ_eq_append_getElem l1, l2]
        · have q2 := lt_f.1 q2
          (try dsimp only at q2)
          exact hk2 _ (List.take_of_length_le (by unfold insV; rw [List.length_map]; exact q2))
      · rintro a rfl
        refine ⟨x, hx, eval_node p hx hf (by unfold insV; simp) ⟨hmn, _, getN T.len hmn, by omega, hnx _ ⟨q, T.step p ho hm hx hf⟩ (by dsimp only; omega)⟩⟩
  · have q := lt_f.1 q
    (try dsimp only at q)
    exact hk t (T.done ho q)
end Go.Proofs.YtedefohdeignpaaDoor

namespace Go.Proofs.YtedefohdeignpaaDoor
open Go.Abs
set_option maxRecDepth 100000
theorem above_vc {l : List Nat} {K : Bool → Prop} (hl : l.length < 2 ^ 60) (hv : ∀ v ∈ l, v ≤ 2) (h : K false) : cf_above_wp l K := by
  unfold cf_above_wp cf_aboveI_wp
  refine search_none (l := l) ?_ ?_ h
  · intro k i nx x hx hi hn
    have hv := hv x (List.mem_of_getElem? hx)
    refine ⟨fun _ => ⟨x, hx, fun q => ?_, fun _ => ⟨by omega, hn⟩⟩, fun q => ?_⟩
    · have := lt_t.1 q; omega
    · have := lt_f.1 q; omega
  · intro k i nx hi hk
    refine ⟨fun q => ?_, fun _ => hk⟩
    have := lt_t.1 q; omega
/-- The gate's output is known and is not what its inputs say. -/
def badB (c : Circ) (t : List Nat) (i : Nat) : Bool := !isFree (kd c i) && (t.getD i 0 != 2) && (evalN (kd c i) ((insOf c i).map fun k => t.getD k 0) != t.getD i 0)
def unjN (c : Circ) (t : List Nat) : List Nat := (List.range c.nodes.length).filter (badB c t)
theorem badB_eq {c : Circ} {t : List Nat} {i : Nat} {x : Node} (hx : c.nodes[i]? = some x) : badB c t i = (!isFree x.kind && (t.getD i 0 != 2) && (evalN x.kind (insV t x) != t.getD i 0)) := by
  unfold badB
  rw [kd_eq hx, ins_eq hx, insV]
theorem badB_t {c : Circ} {t : List Nat} {i : Nat} {x : Node} (hx : c.nodes[i]? = some x) (h1 : isFree x.kind = false) (h2 : ¬ t.getD i 0 = 2) (h3 : ¬ evalN x.kind (insV t x) = t.getD i 0) : badB c t i = true := by
  rw [badB_eq hx, h1]
  revert h2 h3
  generalize t.getD i 0 = v
  intro h2 h3
  simp [h2, h3]
theorem badB_f {c : Circ} {t : List Nat} {i : Nat} {x : Node} (hx : c.nodes[i]? = some x) (h : isFree x.kind = true ∨ t.getD i 0 = 2 ∨ evalN x.kind (insV t x) = t.getD i 0) : badB c t i = false := by
  rw [badB_eq hx]
  revert h
  generalize t.getD i 0 = v
  rintro (h | h | h)
  · rw [h]; simp
  · rw [h]; simp
  · rw [h]; simp
theorem filt_step {p : Nat → Bool} {i : Nat} : (List.range (i + 1)).filter p = (List.range i).filter p ++ (if p i = true then [i] else []) := by
  rw [List.range_succ, List.filter_append]
  simp only [List.filter_cons, List.filter_nil]
theorem filt_at {p : Nat → Bool} {n i : Nat} (hi : i < n) (hp : p i = true) : ((List.range n).filter p)[((List.range i).filter p).length]? = some i := by
  obtain ⟨k, rfl⟩ := Nat.exists_eq_add_of_lt hi
  rw [show i + k + 1 = i + 1 + k by omega, List.range_add, List.filter_append, filt_step, if_pos hp, List.append_assoc, List.getElem?_append_right (Nat.le_refl _), Nat.sub_self]
  rfl
theorem unjustified_vc {c : Circ} (p : Pln c) {t : List Nat} (ht : t.length = c.nodes.length) (hv : ∀ v ∈ t, v ≤ 2) {K : List Nat × Nat → Prop} (h : K (unjN c t, 0)) : implies_Unjustified_wp c t K := by
  have hlen := p.good.len
  unfold implies_Unjustified_wp
  refine plain_vc p ⟨fun q => absurd rfl (ne_t.1 q), fun _ => ⟨fun q => absurd ht (ne_t.1 q), fun _ => above_vc (by omega) hv ⟨(fun q => by cases q), fun _ => ?_⟩⟩⟩
  refine joinLoop (fun s => s.2 ≤ c.nodes.length ∧ s.1 = (List.range s.2).filter (badB c t)) (fun s => c.nodes.length - s.2) (fun a => a = unjN c t) ?_ ⟨Nat.zero_le _, rfl⟩ (fun a e => by rw [e]; exact h)
  rintro k ⟨o, i⟩ nx ⟨hi, hI⟩ hnx hk
  dsimp only at hi hI
  refine ⟨fun q => ?_, fun q => ?_⟩
  · have q := lt_t.1 q
    (try dsimp only at q)
    obtain ⟨x, hx⟩ := get_lt q
    have hol : o.length ≤ i := by rw [hI]; exact Nat.le_trans (List.length_filter_le _ _) (by simp)
    have hg := p.good.node i x hx
    have hfew := hg.few
    refine joinI ⟨x, hx, by omega, by omega, ?_⟩
    refine joinLoop (fun s => s.2 ≤ x.ins.length ∧ s.1.length = x.ins.length ∧ ∀ j, j < s.2 → s.1.getD j 0 = (insV t x).getD j 0) (fun s => x.ins.length - s.2) (fun a => a = insV t x) ?_ ⟨Nat.zero_le _, by simp, fun j hj => absurd hj (Nat.not_lt_zero _)⟩ ?_
    · rintro k2 ⟨l, j⟩ nx2 ⟨hj, hl, hI2⟩ hnx2 hk2
      dsimp only at hj hl hI2
      refine ⟨fun q2 => ?_, fun q2 => ?_⟩
      · have q2 := lt_t.1 q2
        (try dsimp only at q2)
        obtain ⟨y, hy⟩ := get_lt q2
        have hyn := hg.ins y (List.mem_of_getElem? hy)
        have hv : (insV t x).getD j 0 = t.getD y 0 := by unfold insV; rw [List.getD, List.getElem?_map, hy]; rfl
        refine ⟨y, hy, _, getN ht hyn, q2, _, getN hl q2, by omega, hnx2 _ ⟨q2, by simpa using hl, fun j' hj' => ?_⟩ (by dsimp only; omega)⟩
        dsimp only at hj' ⊢
        rw [getD_set (by omega)]
        by_cases e : j = j'
        · subst e; rw [if_pos rfl, hv]
        · rw [if_neg e]; exact hI2 j' (by omega)
      · have q2 := lt_f.1 q2
        (try dsimp only at q2)
        refine hk2 l (List.ext_getElem? fun j' => ?_)
        by_cases e : j' < x.ins.length
        · rw [getN hl e, getN (l := insV t x) (n := x.ins.length) (by unfold insV; simp) e, hI2 j' (by omega)]
        · rw [List.getElem?_eq_none (by omega), List.getElem?_eq_none (by unfold insV; rw [List.length_map]; omega)]
    · rintro a rfl
      have fin : ∀ b, b = badB c t i → (b = true → (o.length + ([i] : List Nat).length) * 8 ≤ 2 ^ 47 ∧ i + 1 < 2 ^ 63 ∧ nx (o ++ [i], i + 1)) ∧ (b = false → i + 1 < 2 ^ 63 ∧ nx (o, i + 1)) := by
        rintro b rfl
        refine ⟨fun e => ⟨by simp only [List.length_singleton]; omega, by omega, hnx _ ⟨q, ?_⟩ (by dsimp only; omega)⟩, fun e => ⟨by omega, hnx _ ⟨q, ?_⟩ (by dsimp only; omega)⟩⟩
        · dsimp only
          rw [filt_step, if_pos e, hI]
        · dsimp only
          rw [filt_step, e, hI]
          simp
      refine joinI (free_vc ⟨fun q3 => ⟨_, getN ht q, fun q4 => ⟨by unfold insV; simp, ?_⟩, fun q4 => fin _ ?_⟩, fun q3 => fin _ ?_⟩)
      · have hf : isFree x.kind = false := by simpa using q3
        refine eval_node p hx hf (by unfold insV; simp) ⟨_, getN ht q, fin _ ?_⟩
        have q4 := ne_t.1 q4
        rw [Bool.eq_iff_iff]
        refine ⟨fun e => badB_t hx hf q4 (ne_t.1 e), fun e => ne_t.2 fun e2 => ?_⟩
        rw [badB_f hx (.inr (.inr e2))] at e
        cases e
      · exact (badB_f hx (.inr (.inl (ne_f.1 q4)))).symm
      · exact (badB_f hx (.inl (by simpa using q3))).symm
  · have q := lt_f.1 q
    (try dsimp only at q)
    have : i = c.nodes.length := by omega
    subst this
    exact hk o hI
theorem tot_le {c : Circ} {b : Nat} {t : List Nat} (T : TotOk c b t) : ∀ v ∈ t, v ≤ 2 := by
  intro v m
  obtain ⟨i, hi, rfl⟩ := List.getElem_of_mem m
  have := T.le i
  rw [List.getD, List.getElem?_eq_getElem hi] at this
  exact this
theorem tot_unj {c : Circ} {b : Nat} {t : List Nat} (T : TotOk c b t) : unjN c t = [] := by
  unfold unjN
  rw [List.filter_eq_nil_iff]
  intro i m
  obtain ⟨x, hx⟩ := get_lt (List.mem_range.1 m)
  have : badB c t i = false := by
    cases hf : isFree x.kind
    · exact badB_f hx (.inr (.inr (T.gate i x hx hf).symm))
    · exact badB_f hx (.inl hf)
  rw [this]; decide
def plainC (x : CData) : CData := ⟨x.inp, x.dffs, x.data0, x.data1, false, false, x.port0, x.port1, x.port2, x.port3, x.gates, x.outs⟩
theorem plainC_ok {x : CData} (h : CB x) : CB (plainC x) := ⟨h.inp, h.dffs, h.data0, h.data1, h.port0, h.port1, h.port2, h.port3, h.gates, h.outs⟩
theorem pln_circ (x : CData) : Pln (circN (plainC x)) := ⟨good_circ rfl, plain_circ rfl rfl⟩
theorem circ_len (x : CData) : (circN (plainC x)).nodes.length ≤ 14 := by
  have h1 : (circN (plainC x)).nodes.length = (rawN (plainC x)).length := updN_length _
  have := rawN_le' (x := plainC x) rfl
  omega
theorem circ_free_lt (x : CData) {f : Nat} (h : f ∈ freeN (circN (plainC x))) : f < 6 := by
  obtain ⟨h1, h2⟩ := freeN_mem h
  obtain ⟨y, hy⟩ := get_lt h1
  rw [kd_eq hy] at h2
  have hm1 := Nat.mod_lt (plainC x).inp (show 0 < 4 by decide)
  have hm2 := Nat.mod_lt (plainC x).dffs (show 0 < 3 by decide)
  rcases circ_node rfl hy with ⟨q, _⟩ | ⟨_, q, _⟩ | ⟨q0, q1, g, hg⟩
  · omega
  · omega
  · have hpos : 0 < (((rawN (plainC x)).take f).map Node.kind).length := by
      rw [List.length_map, List.length_take]
      have := lt_of_get q1
      omega
    have G := gateK_ok (plainC x).bus g hpos
    rw [← hg] at G
    have := comb_gate (k := y.kind) ⟨G.kind1, G.kind⟩
    rw [this] at h2
    cases h2
theorem circ_free (x : CData) : (freeN (circN (plainC x))).length ≤ 6 := by
  have := nodup_len (freeN_nodup (circN (plainC x))) (m := List.range 6) fun f h => List.mem_range.2 (circ_free_lt x h)
  simpa using this
theorem small_vc {x : CData} (hx : CB x) {m : Nat} (hm : 6 ≤ m) {K : Circ × List Nat → Prop} (h : K (circN (plainC x), freeN (circN (plainC x)))) : probecardlaw24_Small_wp x m K := by
  have h1 := circ_len x
  have h2 := circ_free x
  unfold probecardlaw24_Small_wp law24_Plain_wp
  refine of_circ_vc (x := plainC x) (plainC_ok hx) rfl ?_
  refine freeN_vc (by omega) ?_
  refine joinI ⟨fun q => ?_, fun _ => ⟨fun q => ?_, fun _ => h⟩⟩
  · have := lt_t.1 q; omega
  · have := lt_t.1 q; omega
def valO (l : List Nat) (i : Nat) : Nat := if i < l.length then l.getD i 0 % 3 else 2
theorem valO_le (l : List Nat) (i : Nat) : valO l i ≤ 2 := by unfold valO; split <;> omega
theorem impliesOpen_vc {x : CData} (hx : CB x) (l : List Nat) {n : Nat} (hn : n < 256) : probecardlaw24_ImpliesOpen_wp x l n (· = true) := by
  unfold probecardlaw24_ImpliesOpen_wp
  refine small_vc hx (by decide) ?_
  dsimp only
  have p := pln_circ x
  have hlen := circ_len x
  have hfree := circ_free x
  generalize circN (plainC x) = c at p hlen hfree ⊢
  refine joinLoop (fun s => s.2 ≤ c.nodes.length ∧ s.1 = (List.range s.2).map (valO l)) (fun s => c.nodes.length - s.2) (fun a => a = (List.range c.nodes.length).map (valO l)) ?_ ⟨Nat.zero_le _, rfl⟩ ?_
  · rintro k ⟨o, i⟩ nx ⟨hi, hI⟩ hnx hk
    dsimp only at hi hI
    refine ⟨fun q => ?_, fun q => ?_⟩
    · have q := lt_t.1 q
      (try dsimp only at q)
      have fin : ∀ v, v = valO l i → (o.length + ([v] : List Nat).length) * 1 ≤ 2 ^ 47 ∧ i + 1 < 2 ^ 63 ∧ nx (o ++ [v], i + 1) := by
        rintro v rfl
        refine ⟨by rw [hI]; simp only [List.length_map, List.length_range, List.length_singleton]; omega, by omega, hnx _ ⟨q, ?_⟩ (by dsimp only; omega)⟩
        dsimp only
        rw [List.range_succ, List.map_append, hI]; rfl
      refine joinI ⟨fun e => ?_, fun e => fin _ ?_⟩
      · have e := lt_t.1 e
        refine ⟨_, getD_some e, by decide, fin _ ?_⟩
        unfold valO; rw [if_pos e]
      · have e := lt_f.1 e
        unfold valO; rw [if_neg (by omega)]
    · have q := lt_f.1 q
      (try dsimp only at q)
      have : i = c.nodes.length := by omega
      subst this
      exact hk o hI
  rintro vs hvs
  have hvl : vs.length = c.nodes.length := by rw [hvs]; simp
  have hvle : ∀ v ∈ vs, v ≤ 2 := by
    rw [hvs]; intro v m
    obtain ⟨i, _, rfl⟩ := List.mem_map.1 m
    exact valO_le l i
  clear hvs
  refine unjustified_vc p hvl hvle ⟨hn, by omega, Nat.two_pow_pos _, total_vc p fun t T => unjustified_vc p T.len (tot_le T) ?_⟩
  rw [tot_unj T]
  refine joinI ⟨fun q => absurd rfl (ne_t.1 q), fun _ => ⟨fun q => absurd rfl (ne_t.1 q), fun _ => ⟨fun q => absurd (lt_t.1 q) (by simp), fun _ => ?_⟩⟩⟩
  refine joinLoop (fun s => s.2 ≤ c.nodes.length ∧ s.1 = ((List.range s.2).filter (badB c vs)).length) (fun s => c.nodes.length - s.2) (fun a => a = (unjN c vs).length) ?_ ⟨Nat.zero_le _, rfl⟩ ?_
  · rintro k ⟨a, i⟩ nx ⟨hi, hI⟩ hnx hk
    dsimp only at hi hI
    refine ⟨fun q => ?_, fun q => ?_⟩
    · have q := lt_t.1 q
      (try dsimp only at q)
      obtain ⟨x, hx⟩ := get_lt q
      have hg := p.good.node i x hx
      have hfew := hg.few
      have hai : a ≤ i := by rw [hI]; exact Nat.le_trans (List.length_filter_le _ _) (by simp)
      have skip : badB c vs i = false → i + 1 < 2 ^ 63 ∧ nx (a, i + 1) := fun e => by
        refine ⟨by omega, hnx _ ⟨q, ?_⟩ (by dsimp only; omega)⟩
        dsimp only
        rw [filt_step, e, hI]
        simp
      have free : isFree x.kind = true → badB c vs i = false := fun e => badB_f hx (.inl e)
      refine joinI (joinI ⟨x, hx, fun e => ⟨fun _ => skip (free ?_), (fun q => by cases q)⟩, fun e => ⟨x, hx, fun e2 => ⟨fun _ => skip (free ?_), (fun q => by cases q)⟩, fun e2 => ⟨_, getN hvl q, fun e3 => skip ?_, fun e3 => ?_⟩⟩⟩)
      · simp [isFree, eq_t.1 e]
      · simp [isFree, eq_t.1 e2]
      · exact badB_f hx (.inr (.inl (eq_t.1 e3)))
      · have hf : isFree x.kind = false := by
          have := eq_f.1 e
          have := eq_f.1 e2
          simp [isFree]; omega
        have e3 := eq_f.1 e3
        refine joinLoop (fun s => s.2 ≤ x.ins.length ∧ s.1 = (insV vs x).take s.2) (fun s => x.ins.length - s.2) (fun a => a = insV vs x) ?_ ⟨Nat.zero_le _, by simp⟩ ?_
        · rintro k2 ⟨m, j⟩ nx2 ⟨hj, hm⟩ hnx2 hk2
          dsimp only at hj hm
          subst hm
          refine ⟨x, hx, fun q2 => ?_, fun q2 => ?_⟩
          · have q2 := lt_t.1 q2
            (try dsimp only at q2)
            obtain ⟨y, hy⟩ := get_lt q2
            have hyn := hg.ins y (List.mem_of_getElem? hy)
            have hv : (insV vs x)[j]? = some (vs.getD y 0) := by unfold insV; rw [List.getElem?_map, hy]; rfl
            obtain ⟨l1, l2⟩ := List.getElem?_eq_some_iff.1 hv
            refine ⟨x, hx, y, hy, _, getN hvl hyn, by simp only [List.length_take, List.length_singleton]; omega, by omega, hnx2 _ ⟨q2, ?_⟩ (by dsimp only; omega)⟩
            dsimp only
            rw [List.take_succ_eq_append_getElem l1, l2]
          · have q2 := lt_f.1 q2
            (try dsimp only at q2)
            exact hk2 _ (List.take_of_length_le (by unfold insV; rw [List.length_map]; exact q2))
        · rintro m rfl
          refine ⟨x, hx, eval_node p hx hf (by unfold insV; simp) ⟨_, getN hvl q, fun e4 => ?_, fun e4 => skip ?_⟩⟩
          · have e4 := ne_t.1 e4
            have hbt : badB c vs i = true := badB_t hx hf e3 e4
            have hat : (unjN c vs)[a]? = some i := by rw [hI]; exact filt_at q hbt
            refine joinI ⟨fun e5 => ?_, fun _ => ⟨i, hat, fun e5 => absurd rfl (ne_t.1 e5), fun _ => ⟨by omega, by omega, hnx _ ⟨q, ?_⟩ (by dsimp only; omega)⟩⟩⟩
            · have h5 := nlt_t.1 e5
              have h6 := lt_of_get hat
              exact absurd h6 (Nat.not_lt.2 h5)
            · dsimp only
              rw [filt_step, if_pos hbt, List.length_append, hI]; rfl
          · exact badB_f hx (.inr (.inr (ne_f.1 e4)))
    · have q := lt_f.1 q
      (try dsimp only at q)
      have : i = c.nodes.length := by omega
      subst this
      exact hk a hI
  · rintro a rfl
    exact ⟨fun _ => rfl, fun q => absurd rfl (eq_f.1 q)⟩
end Go.Proofs.YtedefohdeignpaaDoor

namespace Go.Proofs.YtedefohdeignpaaDoor
open Go.Abs
set_option maxRecDepth 100000
def impliesOpen_sh : List (Sh × Bool) := [(shC, true), (.slice shB, false), (shB, false)]
theorem impliesOpen_call (x : DenL impliesOpen_sh) (w : wfL impliesOpen_sh x) : FnV Tryd.prog NG vars 7 ⟨argL impliesOpen_sh x⟩ (.bool true) := by
  obtain ⟨c, vs, n, u⟩ := x
  obtain ⟨wc, wv, wn, _⟩ := w
  obtain ⟨y, hy, e1⟩ := c_arg wc
  obtain ⟨l, _, e2⟩ := bytes_arg wv
  obtain ⟨n, hn, rfl⟩ := byte_of wn
  have e : argL impliesOpen_sh (c, vs, Int.ofNat n, u) = [encC y, encL 1 n8 l, n8 n] := by
    show [elV (!true) (shC.cellsF c), elV (!false) ((Sh.slice shB).cellsF vs), elV (!false) (shB.cellsF (Int.ofNat n))] = _
    rw [e1, e2]; rfl
  rw [e]
  exact FnV.of_walk (enc := Value.bool) (r := true) (PureV.flat rfl) fun h hB => probecardlaw24_ImpliesOpen_walk (impliesOpen_vc hy l hn) hB
end Go.Proofs.YtedefohdeignpaaDoor
