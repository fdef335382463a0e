/-
  Pd, Pe, Pf, Pg, Ph, Ez, E0, Ez2, Pi1, E1, Pi2, ImpliesErrors: parts of the proof.
-/
import Derived.Test.YtfhldkgelipnaaaDoorIe44
namespace Go.Proofs.YtfhldkgelipnaaaDoor
open Go.Abs
set_option maxRecDepth 100000
/-- Gates with at most 3 inputs. -/
def Few3 (c : Circ) : Prop := ∀ (i : Nat) (y : Node), c.nodes[i]? = some y → y.ins.length ≤ 3
theorem getD_out {l : List Nat} {i : Nat} (h : l.length ≤ i) : l.getD i 0 = 0 := by rw [List.getD, List.getElem?_eq_none h]; rfl
theorem insV_le {t : List Nat} {b : Nat} (h : ∀ i, t.getD i 0 ≤ b) (x : Node) : ∀ v ∈ insV t x, v ≤ b := by
  intro v m
  obtain ⟨k, _, rfl⟩ := List.mem_map.1 m
  exact h k
theorem tot_bin {c : Circ} (p : Pln c) (f3 : Few3 c) {b : Nat} {t : List Nat} (T : TotOk c b t) : ∀ i, t.getD i 0 ≤ 1 := by
  have key : ∀ n i, i < n → t.getD i 0 ≤ 1 := by
    intro n
    induction n with
    | zero => intro i h; exact absurd h (Nat.not_lt_zero _)
    | succ n ih =>
      intro i _
      by_cases hi : i < c.nodes.length
      · obtain ⟨x, hx⟩ := get_lt hi
        cases hf : isFree x.kind
        · have hg := p.gate hx hf
          have G := p.good.node i x hx
          rw [T.gate i x hx hf]
          refine eval_bin hg.1 hg.2 (by unfold insV; rw [List.length_map]; exact G.arity) (by unfold insV; rw [List.length_map]; exact f3 i x hx) fun v m => ?_
          obtain ⟨k, hk, rfl⟩ := List.mem_map.1 m
          have := G.acyc hg.1 (by omega) k hk
          exact ih k (by omega)
        · have hm : i ∈ freeN c := by
            unfold freeN
            rw [List.mem_filter, kd_eq hx]
            exact ⟨List.mem_range.2 hi, hf⟩
          obtain ⟨j, hj, e⟩ := List.getElem_of_mem hm
          rw [T.free j i (by rw [List.getElem?_eq_getElem hj, e])]
          have := Nat.mod_lt (b / 2 ^ j) (show 0 < 2 by decide)
          omega
      · rw [getD_out (by rw [T.len]; omega)]
        exact Nat.zero_le _
  exact fun i => key (i + 1) i (Nat.lt_succ_self i)
theorem insV_getD {t : List Nat} {x : Node} {j y : Nat} (hy : x.ins[j]? = some y) : (insV t x).getD j 0 = t.getD y 0 := by
  unfold insV; rw [List.getD, List.getElem?_map, hy]; rfl
theorem insV_len (t : List Nat) (x : Node) : (insV t x).length = x.ins.length := by unfold insV; simp
/-- What the walk over a gate's values keeps. -/
structure GS (c : Circ) (given : List Asg) (m : Nat) (v0 w0 : List Nat) (v w : List Nat) (done : Prop) : Prop where
  inv : CI c given (· = m) v w
  le : v.count 2 * 1001 + w.length ≤ v0.count 2 * 1001 + w0.length
  mono : ∀ i, v0.getD i 0 ≠ 2 → v.getD i 0 = v0.getD i 0
  or : m ∈ w ∨ (v = v0 ∧ done)
theorem GS.to {c : Circ} {given : List Asg} {m : Nat} {v0 w0 v w : List Nat} {d d' : Prop} (S : GS c given m v0 w0 v w d) (h : v = v0 → d → d') : GS c given m v0 w0 v w d' := ⟨S.inv, S.le, S.mono, S.or.imp_right fun ⟨a, b⟩ => ⟨a, h a b⟩⟩
/-- One derived value is put. -/
theorem gput_vc {c : Circ} (p : Pln c) {given : List Asg} {m : Nat} {v0 w0 v w : List Nat} {d : Prop} {y x : Nat} {K : Bool × List Nat × List Nat → Prop} (S : GS c given m v0 w0 v w d) (hy : y < c.nodes.length) (hx : x ≤ 2)
    (hs : ∀ t, TotE c given t → Blw x (t.getD y 0)) (hr : y = m ∨ ∃ z, c.nodes[m]? = some z ∧ y ∈ z.ins)
    (h1 : ∀ v' w', GS c given m v0 w0 v' w' (d ∧ Blw x (v0.getD y 0)) → K (true, v', w'))
    (h2 : ∀ v' w', (∀ t, ¬ TotE c given t) → K (false, v', w')) :
    work_put_wp c.nodes c.names c.mems c.outs (fanL c) c.nodes.length v w y x K := by
  have hb := S.inv.bnd
  refine put_vc p.good S.inv.len hy (by omega) (fun q => h1 v w (S.to fun e hd => ⟨hd, ?_⟩)) (fun q1 q2 => h1 _ _ ?_) (fun q1 q2 q3 => h2 _ _ fun t ht => ?_)
  · rcases q with q | q
    · exact .inl q
    · rw [e] at q; exact .inr q.symm
  · obtain ⟨I, hle⟩ := S.inv.put p.good hy q2 q1 hx fun t ht => ((hs t ht).resolve_left q1).symm
    refine ⟨I, Nat.le_trans hle S.le, fun i hi => ?_, .inl ?_⟩
    · have hyl : y < v.length := by rw [S.inv.len]; exact hy
      rw [getD_set hyl]
      by_cases e : y = i
      · subst e
        have := S.mono y hi
        rw [q2] at this
        exact absurd this.symm hi
      · rw [if_neg e]; exact S.mono i hi
    · rcases hr with rfl | ⟨z, hz, hm⟩
      · simp
      · exact List.mem_append_right _ (List.mem_cons_of_mem _ (fan_reads hz hm))
  · have a := (hs t ht).resolve_left q1
    have b := (S.inv.snd t ht y).resolve_left q2
    rw [a, b] at q3
    exact q3 rfl
end Go.Proofs.YtfhldkgelipnaaaDoor

namespace Go.Proofs.YtfhldkgelipnaaaDoor
open Go.Abs
set_option maxRecDepth 100000
theorem gate_vc {c : Circ} (p : Pln c) (f3 : Few3 c) {given : List Asg} {m : Nat} {v0 w0 : List Nat} {z : Node} {K : Bool × List Nat × List Nat → Prop} (hz : c.nodes[m]? = some z) (hf : isFree z.kind = false)
    (I : CI c given (· = m) v0 w0)
    (h1 : ∀ v w, CI c given (fun _ => False) v w → v.count 2 * 1001 + w.length ≤ v0.count 2 * 1001 + w0.length → (∀ i, v0.getD i 0 ≠ 2 → v.getD i 0 = v0.getD i 0) → K (true, v, w))
    (h2 : ∀ v w, (∀ t, ¬ TotE c given t) → K (false, v, w)) :
    work_gate_wp c.nodes c.names c.mems c.outs (fanL c) c.nodes.length v0 w0 m K := by
  have hm := lt_of_get hz
  have hg := p.gate hz hf
  have G := p.good.node m z hz
  have hl3 := f3 m z hz
  have hlen := p.good.len
  have F : GF z.kind (v0.getD m 0) (insV v0 z) := gf hg.1 hg.2 (by rw [insV_len]; exact G.arity) (by rw [insV_len]; exact hl3) (I.le m) (insV_le I.le z)
  have sound : ∀ t, TotE c given t → (gateR z.kind (v0.getD m 0) (insV v0 z)).2.2 = true ∧ Blw (gateR z.kind (v0.getD m 0) (insV v0 z)).1 (t.getD m 0) ∧ ∀ j, Blw ((gateR z.kind (v0.getD m 0) (insV v0 z)).2.1.getD j 0) ((insV t z).getD j 0) := by
    intro t ht
    obtain ⟨⟨b, T⟩, he⟩ := ht
    have hb := tot_bin p f3 T
    have e := T.gate m z hz hf
    rw [e]
    refine F.sound (insV t z) (by rw [insV_len, insV_len]) (insV_le hb z) ?_ fun j => ?_
    · rw [← e]; exact I.snd t ⟨⟨b, T⟩, he⟩ m
    · by_cases hj : j < z.ins.length
      · obtain ⟨y, hy⟩ := get_lt hj
        rw [insV_getD hy, insV_getD hy]
        exact I.snd t ⟨⟨b, T⟩, he⟩ y
      · rw [getD_out (by rw [insV_len]; omega), getD_out (by rw [insV_len]; omega)]
        exact .inr rfl
  unfold work_gate_wp
  refine ⟨z, hz, by omega, by omega, ?_⟩
  refine joinLoop (fun s => s.2 ≤ z.ins.length ∧ s.1.length = z.ins.length ∧ ∀ j, j < s.2 → s.1.getD j 0 = (insV v0 z).getD j 0) (fun s => z.ins.length - s.2) (fun a => a = insV v0 z) ?_ ⟨Nat.zero_le _, by simp, fun j hj => absurd hj (Nat.not_lt_zero _)⟩ ?_
  · rintro k2 ⟨l, j⟩ nx2 ⟨hj, hl, hI2⟩ hnx2 hk2
    dsimp only at hj hl hI2
    refine ⟨fun q2 => ?_, fun q2 => ?_⟩
    · have q2 := lt_t.1 q2
      (try dsimp only at q2)
      obtain ⟨y, hy⟩ := get_lt q2
      have hyn := G.ins y (List.mem_of_getElem? hy)
      refine ⟨y, hy, hyn, _, getN I.len hyn, q2, _, getN hl q2, by omega, hnx2 _ ⟨q2, by simpa using hl, fun j' hj' => ?_⟩ (by dsimp only; omega)⟩
      dsimp only at hj' ⊢
      rw [getD_set (by omega)]
      by_cases e : j = j'
      · subst e; rw [if_pos rfl, insV_getD hy]
      · rw [if_neg e]; exact hI2 j' (by omega)
    · have q2 := lt_f.1 q2
      (try dsimp only at q2)
      refine hk2 l (List.ext_getElem? fun j' => ?_)
      by_cases e : j' < z.ins.length
      · rw [getN hl e, getN (insV_len v0 z) e, hI2 j' (by omega)]
      · rw [List.getElem?_eq_none (by omega), List.getElem?_eq_none (by rw [insV_len]; omega)]
  rintro a rfl
  refine ⟨hm, _, getN I.len hm, (insV_len v0 z).symm, by omega, by rw [insV_len]; omega, F.ok, ?_⟩
  generalize hr : gateR z.kind (v0.getD m 0) (insV v0 z) = r at F sound ⊢
  have hle := F.le
  rw [hr] at hle
  refine joinI ⟨fun q => ⟨fun _ => h2 _ _ fun t ht => ?_, (fun e => by cases e)⟩, fun q => ?_⟩
  · have := (sound t ht).1
    rw [this] at q; cases q
  have hok : r.2.2 = true := by simpa using q
  obtain ⟨le1, le2, le3⟩ := hle hok
  have S0 : GS c given m v0 w0 v0 w0 True := ⟨I, Nat.le_refl _, fun _ _ => rfl, .inr ⟨rfl, trivial⟩⟩
  refine gput_vc p S0 hm le1 (fun t ht => (sound t ht).2.1) (.inl rfl) (fun v w S => ⟨(fun e => by cases e), fun _ => ?_⟩) (fun v w hn => ⟨fun _ => h2 _ _ hn, (fun e => by cases e)⟩)
  refine joinLoop (fun s => s.2.2 ≤ z.ins.length ∧ GS c given m v0 w0 s.1 s.2.1 ((True ∧ Blw r.1 (v0.getD m 0)) ∧ ∀ j, j < s.2.2 → Blw (r.2.1.getD j 0) ((insV v0 z).getD j 0))) (fun s => z.ins.length - s.2.2) (fun s => GS c given m v0 w0 s.1 s.2 ((True ∧ Blw r.1 (v0.getD m 0)) ∧ ∀ j, j < z.ins.length → Blw (r.2.1.getD j 0) ((insV v0 z).getD j 0))) ?_ ⟨Nat.zero_le _, S.to fun _ d => ⟨d, fun j hj => absurd hj (Nat.not_lt_zero _)⟩⟩ ?_
  · rintro k ⟨v, w, j⟩ nx ⟨hj, S⟩ hnx hk
    dsimp only at hj S
    refine ⟨fun q => ?_, fun q => ?_⟩
    · have q := lt_t.1 q
      (try dsimp only at q)
      obtain ⟨y, hy⟩ := get_lt q
      have hyn := G.ins y (List.mem_of_getElem? hy)
      have hjr : j < r.2.1.length := by rw [le2, insV_len]; exact q
      refine ⟨y, hy, _, getD_some hjr, gput_vc p S hyn (le3 _ (getD_mem hjr)) (fun t ht => ?_) (.inr ⟨z, hz, List.mem_of_getElem? hy⟩) (fun v' w' S' => ⟨(fun e => by cases e), fun _ => ⟨by omega, hnx _ ⟨q, ?_⟩ (by dsimp only; omega)⟩⟩) (fun v' w' hn => ⟨fun _ => h2 _ _ hn, (fun e => by cases e)⟩)⟩
      · have := (sound t ht).2.2 j
        rw [insV_getD hy] at this
        exact this
      · refine S'.to fun _ d => ⟨d.1.1, fun j' hj' => ?_⟩
        by_cases e : j' = j
        · subst e; rw [insV_getD hy]; exact d.2
        · exact d.1.2 j' (by dsimp only at hj'; omega)
    · have q := lt_f.1 q
      (try dsimp only at q)
      exact hk (v, w) (S.to fun _ d => ⟨d.1, fun j' hj' => d.2 j' (by omega)⟩)
  · rintro ⟨v, w⟩ S
    dsimp only at S
    have I2 := S.inv
    refine h1 v w ⟨I2.len, I2.le, I2.wlt, I2.bnd, I2.snd, fun i hi => ?_⟩ S.le S.mono
    rcases I2.cls i hi with q | q
    · subst q
      rcases S.or with q | ⟨rfl, ⟨_, d1⟩, d2⟩
      · exact .inr (.inl q)
      · refine .inr (.inr fun z' hz' _ => ?_)
        rw [hz] at hz'; cases hz'
        rw [hr]
        refine ⟨hok, d1, fun j => ?_⟩
        by_cases e : j < z.ins.length
        · exact d2 j e
        · rw [getD_out (by rw [le2, insV_len]; omega), getD_out (by rw [insV_len]; omega)]
          exact .inr rfl
    · exact .inr q
end Go.Proofs.YtfhldkgelipnaaaDoor

namespace Go.Proofs.YtfhldkgelipnaaaDoor
open Go.Abs
set_option maxRecDepth 100000
/-- What Close returns. -/
structure CloseOk (c : Circ) (given : List Asg) (v : List Nat) : Prop where
  len : v.length = c.nodes.length
  le : ∀ i, v.getD i 0 ≤ 2
  snd : ∀ t, TotE c given t → ∀ i, Blw (v.getD i 0) (t.getD i 0)
  cls : ∀ i, i < c.nodes.length → ClosedAt c v i
  giv : ∀ a ∈ given, v.getD a.net 0 = a.value
theorem close_vc {c : Circ} (p : Pln c) (f3 : Few3 c) {given : List Asg} (hg : ∀ a ∈ given, a.net < c.nodes.length ∧ a.value ≤ 1) (hl : given.length < 2 ^ 60) {K : List Nat × Bool × Nat → Prop}
    (h1 : ∀ v, CloseOk c given v → K (v, true, 0)) (h2 : (∀ t, ¬ TotE c given t) → K ([], false, 0)) : implies_Close_wp c given K := by
  have hlen := p.good.len
  unfold implies_Close_wp
  refine plain_vc p ⟨fun q => absurd rfl (ne_t.1 q), fun _ => ?_⟩
  refine search_none (l := given) ?_ ?_ ?_
  · intro k i nx a ha hi hn
    obtain ⟨g1, g2⟩ := hg a (List.mem_of_getElem? ha)
    refine ⟨fun _ => ⟨a, ha, joinI ⟨fun q => absurd (lt_t.1 q) (Nat.not_lt_zero _), fun _ => ⟨fun q => absurd (nlt_t.1 q) (by omega), fun _ => known_vc ?_⟩⟩⟩, fun q => ?_⟩
    · rw [decide_eq_true g2]
      exact ⟨(fun e => by cases e), fun _ => ⟨by omega, hn⟩⟩
    · have := lt_f.1 q; omega
  · intro k i nx hi hk
    refine ⟨fun q => ?_, fun _ => hk⟩
    have := lt_t.1 q; omega
  refine fanout_vc p.good.fanOk ⟨by omega, by omega, ?_⟩
  refine joinLoop (fun s => s.2.2 ≤ c.nodes.length ∧ s.1.length = c.nodes.length ∧ (∀ j, j < s.2.2 → s.1.getD j 0 = 2) ∧ s.2.1 = List.range s.2.2) (fun s => c.nodes.length - s.2.2) (fun s => s.1.length = c.nodes.length ∧ (∀ j, j < c.nodes.length → s.1.getD j 0 = 2) ∧ s.2 = List.range c.nodes.length) ?_ ⟨Nat.zero_le _, by simp, (fun j hj => absurd hj (Nat.not_lt_zero _)), rfl⟩ ?_
  · rintro k ⟨v, w, i⟩ nx ⟨hi, h3, h4, h5⟩ hnx hk
    dsimp only at hi h3 h4 h5
    refine ⟨fun q => ?_, fun q => ?_⟩
    · have q := lt_t.1 q
      (try dsimp only at q)
      refine ⟨q, _, getN h3 q, by rw [h5]; simp only [List.length_range, List.length_singleton]; omega, by omega, hnx _ ⟨q, by simpa using h3, fun j hj => ?_, ?_⟩ (by dsimp only; omega)⟩
      · dsimp only at hj ⊢
        rw [getD_set (by omega)]
        by_cases e : i = j
        · rw [if_pos e]
        · rw [if_neg e]; exact h4 j (by omega)
      · dsimp only
        rw [h5, List.range_succ]
    · have q := lt_f.1 q
      (try dsimp only at q)
      have : i = c.nodes.length := by omega
      subst this
      exact hk (v, w) ⟨h3, h4, h5⟩
  rintro ⟨v, w⟩ ⟨h3, h4, h5⟩
  dsimp only at h3 h4 h5
  subst h5
  have I0 : CI c given (fun _ => False) v (List.range c.nodes.length) := by
    refine ⟨h3, fun i => ?_, fun i m => List.mem_range.1 m, ?_, fun t ht i => ?_, fun i hi => .inr (.inl (List.mem_range.2 hi))⟩
    · by_cases e : i < c.nodes.length
      · rw [h4 i e]; exact Nat.le_refl _
      · rw [getD_out (by omega)]; exact Nat.zero_le _
    · have : v.count 2 ≤ v.length := List.count_le_length
      rw [List.length_range]; omega
    · by_cases e : i < c.nodes.length
      · exact .inl (h4 i e)
      · obtain ⟨⟨b, T⟩, _⟩ := ht
        rw [getD_out (by omega), getD_out (by rw [T.len]; omega)]
        exact .inr rfl
  refine joinLoop (fun s => s.2.2 ≤ given.length ∧ CI c given (fun _ => False) s.1 s.2.1 ∧ ∀ a ∈ given.take s.2.2, s.1.getD a.net 0 = a.value) (fun s => given.length - s.2.2) (fun s => CI c given (fun _ => False) s.1 s.2 ∧ ∀ a ∈ given, s.1.getD a.net 0 = a.value) ?_ ⟨Nat.zero_le _, I0, fun a m => by simp at m⟩ ?_
  · rintro k ⟨v, w, i⟩ nx ⟨hi, I, hv⟩ hnx hk
    dsimp only at hi I hv
    refine ⟨fun q => ?_, fun q => ?_⟩
    · have q := lt_t.1 q
      (try dsimp only at q)
      obtain ⟨a, ha⟩ := get_lt q
      obtain ⟨l1, l2⟩ := List.getElem?_eq_some_iff.1 ha
      have hmem := List.mem_of_getElem? ha
      obtain ⟨g1, g2⟩ := hg a hmem
      have hb := I.bnd
      have tk : ∀ a' ∈ given.take (i + 1), a' ∈ given.take i ∨ a' = a := by
        intro a' m
        rw [List.take_succ_eq_append_getElem l1, l2] at m
        rcases List.mem_append.1 m with m | m
        · exact .inl m
        · exact .inr (List.mem_singleton.1 m)
      refine ⟨a, ha, put_vc p.good I.len g1 (by omega) (fun e => ⟨(fun e2 => by cases e2), fun _ => ⟨by omega, hnx _ ⟨q, I, fun a' m => ?_⟩ (by dsimp only; omega)⟩⟩) (fun e1 e2 => ⟨(fun e3 => by cases e3), fun _ => ⟨by omega, hnx _ ⟨q, (I.put p.good g1 e2 e1 (by omega) fun t ht => ht.2 a hmem).1, fun a' m => ?_⟩ (by dsimp only; omega)⟩⟩) (fun e1 e2 e3 => ⟨fun _ => h2 fun t ht => ?_, (fun e => by cases e)⟩)⟩
      · rcases tk a' m with m | rfl
        · exact hv a' m
        · rcases e with e | e
          · omega
          · exact e
      · have hnl : a.net < v.length := by rw [I.len]; exact g1
        dsimp only
        rw [getD_set hnl]
        rcases tk a' m with m | rfl
        · have e4 := hv a' m
          by_cases e : a.net = a'.net
          · have := (hg a' (List.mem_of_mem_take m)).2
            rw [← e, e2] at e4
            omega
          · rw [if_neg e]; exact e4
        · rw [if_pos rfl]
      · have b1 := (I.snd t ht a.net).resolve_left e2
        rw [ht.2 a hmem] at b1
        exact e3 b1
    · have q := lt_f.1 q
      (try dsimp only at q)
      exact hk (v, w) ⟨I, fun a m => hv a (by rw [List.take_of_length_le q]; exact m)⟩
  rintro ⟨v, w⟩ ⟨I, hv⟩
  dsimp only at I hv
  refine joinLoop (fun s => CI c given (fun _ => False) s.1 s.2 ∧ ∀ a ∈ given, s.1.getD a.net 0 = a.value) (fun s => s.1.count 2 * 1001 + s.2.length) (fun s => CloseOk c given s.1) ?_ ⟨I, hv⟩ ?_
  · rintro k ⟨v, w⟩ nx ⟨I, hv⟩ hnx hk
    dsimp only at I hv
    refine ⟨fun q => ?_, fun q => ?_⟩
    · have q := lt_t.1 q
      (try dsimp only at q)
      obtain ⟨m, w', rfl⟩ : ∃ m w', w = m :: w' := by
        cases w with
        | nil => exact absurd q (Nat.lt_irrefl _)
        | cons m w' => exact ⟨m, w', rfl⟩
      have hm := I.wlt m (by simp)
      obtain ⟨z, hz⟩ := get_lt hm
      have hb := I.bnd
      rw [List.length_cons] at hb
      refine ⟨m, rfl, by rw [List.length_cons]; omega, z, hz, free_vc ⟨fun e => ?_, fun e => ?_⟩⟩
      · refine hnx _ ⟨⟨I.len, I.le, fun i hi => I.wlt i (List.mem_cons_of_mem _ hi), by simp only [List.drop_succ_cons, List.drop_zero]; omega, I.snd, fun i hi => ?_⟩, hv⟩ (by simp)
        rcases I.cls i hi with r | r | r
        · exact .inl r
        · rcases List.mem_cons.1 r with rfl | r
          · refine .inr (.inr fun z' hz' hf => ?_)
            rw [hz] at hz'; cases hz'
            rw [e] at hf; cases hf
          · exact .inr (.inl r)
        · exact .inr (.inr r)
      · have I' : CI c given (· = m) v w' := by
          refine ⟨I.len, I.le, fun i hi => I.wlt i (List.mem_cons_of_mem _ hi), by omega, I.snd, fun i hi => ?_⟩
          rcases I.cls i hi with r | r | r
          · exact r.elim
          · rcases List.mem_cons.1 r with rfl | r
            · exact .inl rfl
            · exact .inr (.inl r)
          · exact .inr (.inr r)
        refine gate_vc p f3 hz e I' (fun v2 w2 I2 hle hmono => ⟨(fun e2 => by cases e2), fun _ => hnx _ ⟨I2, fun a ha => ?_⟩ ?_⟩) (fun v2 w2 hn => ⟨fun _ => h2 hn, (fun e2 => by cases e2)⟩)
        · have e3 := hv a ha
          have := (hg a ha).2
          have e4 := hmono a.net (by omega)
          dsimp only
          rw [e4, e3]
        · dsimp only
          have e5 : (m :: w').length = w'.length + 1 := List.length_cons
          have hle : v2.count 2 * 1001 + w2.length ≤ v.count 2 * 1001 + w'.length := hle
          omega
    · have q := lt_f.1 q
      (try dsimp only at q)
      have e : w = [] := List.length_eq_zero_iff.1 (by omega)
      subst e
      refine hk (v, []) ⟨I.len, I.le, I.snd, fun i hi => ?_, hv⟩
      rcases I.cls i hi with r | r | r
      · exact r.elim
      · cases r
      · exact r
  · rintro ⟨v, w⟩ C
    exact ⟨C.len.symm, h1 v C⟩
end Go.Proofs.YtfhldkgelipnaaaDoor

namespace Go.Proofs.YtfhldkgelipnaaaDoor
open Go.Abs
set_option maxRecDepth 100000
theorem gateK_few (bus : Bool) (g : GData) (ks : List Nat) : (gateK bus g ks).ins.length ≤ 3 := by
  unfold gateK
  generalize (if bus then g.kind % 13 else g.kind % 9) = kk
  repeat' split
  all_goals simp only
  all_goals first | (simp; done) | (split <;> simp)
end Go.Proofs.YtfhldkgelipnaaaDoor

namespace Go.Proofs.YtfhldkgelipnaaaDoor
open Go.Abs
set_option maxRecDepth 100000
/-- What Close returns, either way. -/
inductive CloseR (c : Circ) (given : List Asg) : List Nat × Bool × Nat → Prop
  | ok (v : List Nat) (C : CloseOk c given v) : CloseR c given (v, true, 0)
  | no (h : ∀ t, ¬ TotE c given t) : CloseR c given ([], false, 0)
theorem close_res {c : Circ} (p : Pln c) (f3 : Few3 c) {given : List Asg} (hg : ∀ a ∈ given, a.net < c.nodes.length ∧ a.value ≤ 1) (hl : given.length < 2 ^ 60) {K : List Nat × Bool × Nat → Prop}
    (h : ∀ r, CloseR c given r → K r) : implies_Close_wp c given K :=
  close_vc p f3 hg hl (fun v C => h _ (.ok v C)) (fun n => h _ (.no n))
theorem CloseR.err {c : Circ} {given : List Asg} {r : List Nat × Bool × Nat} (R : CloseR c given r) : r.2.2 = 0 := by cases R <;> rfl
theorem CloseR.yes {c : Circ} {given : List Asg} {r : List Nat × Bool × Nat} (R : CloseR c given r) (h : r.2.1 = true) : CloseOk c given r.1 := by
  cases R with
  | ok v C => exact C
  | no _ => cases h
theorem CloseR.not {c : Circ} {given : List Asg} {r : List Nat × Bool × Nat} (R : CloseR c given r) (h : r.2.1 = false) : r.1 = [] ∧ ∀ t, ¬ TotE c given t := by
  cases R with
  | ok v C => cases h
  | no q => exact ⟨rfl, q⟩
end Go.Proofs.YtfhldkgelipnaaaDoor

namespace Go.Proofs.YtfhldkgelipnaaaDoor
open Go.Abs
set_option maxRecDepth 100000
structure AsgZ where
  net : Int
  value : Nat
def encAsgZ (x : AsgZ) : Value := .agg ⟨[z64 x.net, n8 x.value]⟩
end Go.Proofs.YtfhldkgelipnaaaDoor

namespace Go.Proofs.YtfhldkgelipnaaaDoor
open Go.Abs
set_option maxRecDepth 100000
set_option maxHeartbeats 8000000
def implies_CloseN_wp (p0 : Circ) (p1 : (List AsgZ)) (K : ((List Nat) × Bool × Nat) → Prop) : Prop :=
  implies_Plain_wp p0 (fun r1 => ((neN r1 0) = true → K ([], false, r1)) ∧ ((neN r1 0) = false → joinW (α := Unit) (fun k2 => loopW (S := Nat) (fun v3 nx4 => ((ltN v3 p1.length) = true → ∃ x5, p1[v3]? = some x5 ∧ joinW (α := Bool) (fun k9 => ((ltI x5.net (Int.ofNat 0)) = true → k9 true) ∧ ((ltI x5.net (Int.ofNat 0)) = false → ((!ltI x5.net (Int.ofNat p0.nodes.length)) = true → k9 true) ∧ ((!ltI x5.net (Int.ofNat p0.nodes.length)) = false → logic_Known_wp x5.value (fun r10 => k9 (!r10))))) (fun v8 => (v8 = true → K ([], false, 1)) ∧ (v8 = false → v3 + 1 < 2 ^ 63 ∧ nx4 (v3 + 1)))) ∧ ((ltN v3 p1.length) = false → k2 ())) 0) (fun _ => netlists_Fanout_wp p0 (fun r11 => 1 * p0.nodes.length ≤ 2 ^ 48 ∧ p0.nodes.length < 2 ^ 63 ∧ joinW (α := ((List Nat) × (List Nat))) (fun k24 => loopW (S := ((List Nat) × (List Nat) × Nat)) (fun (v25, v29, v30) nx33 => ((ltN v30 p0.nodes.length) = true → v30 < p0.nodes.length ∧ ∃ x34, v25[v30]? = some x34 ∧ (v29.length + ([v30] : (List Nat)).length) * 8 ≤ 2 ^ 47 ∧ v30 + 1 < 2 ^ 63 ∧ nx33 ((v25.set v30 2), (v29 ++ ([v30] : (List Nat))), (v30 + 1))) ∧ ((ltN v30 p0.nodes.length) = false → k24 (v25, v29))) ((List.replicate p0.nodes.length (0 : Nat)), ([] : List Nat), 0)) (fun (v17, v21) => joinW (α := Unit) (fun k43 => loopW (S := Unit) (fun _ nx46 => ((ltN 0 p1.length) = true → ∃ x47, p1[0]? = some x47 ∧ False) ∧ ((ltN 0 p1.length) = false → k43 ())) ()) (fun _ => joinW (α := (List Nat)) (fun k56 => loopW (S := (List Nat)) (fun v60 nx63 => ((ltN 0 v60.length) = true → ∃ x64, v60[0]? = some x64 ∧ 1 ≤ v60.length ∧ ∃ x67, p0.nodes[x64]? = some x67 ∧ implies_free_wp x67.kind (fun r68 => (r68 = true → nx63 (v60.drop 1)) ∧ (r68 = false → False))) ∧ ((ltN 0 v60.length) = false → k56 v60)) v21) (fun v53 => p0.nodes.length = v17.length ∧ K (v17, true, 0))))))))
theorem implies_CloseN_walk {p0 : Circ} {p1 : (List AsgZ)} {K : ((List Nat) × Bool × Nat) → Prop} (hm : implies_CloseN_wp p0 p1 K) {h0 : Heap} (hB : HasB vars h0) : ∃ r, K r ∧ CallD Tryd.prog NG 9 ⟨[encCirc p0, (encL 2 encAsgZ) p1]⟩ h0 ((fun (r : ((List Nat) × Bool × Nat)) => Value.tuple ⟨[(encL 1 n8) (r.1), Value.bool (r.2.1), i64 (r.2.2)]⟩) r) h0 := by
  unfold implies_CloseN_wp at hm
  refine fnW hM Tryd.func9 rfl (hP _ _ rfl Tryd.func9) (Nat.le_of_ble_eq_true rfl) hB (enc := (fun (r : ((List Nat) × Bool × Nat)) => Value.tuple ⟨[(encL 1 n8) (r.1), Value.bool (r.2.1), i64 (r.2.2)]⟩)) (fun r => PureV.tup (AllPure.cons (pureL (fun _ => AllPure.cons (PureV.flat rfl) AllPure.nil)) (AllPure.cons (PureV.flat rfl) (AllPure.cons (PureV.flat rfl) (AllPure.nil))))) fun O => ?_; conv=>whnf
  apply Cs;((conv=>whnf);repeat (first|apply Cs|apply Hs|apply Hx);conv=>whnf)
  refine NewG.frz rfl ?_; ((conv=>whnf);repeat (first|apply Cs|apply Hs|apply Hx);conv=>whnf)
  refine ⟨_, (rfl : aread _ _ _ _ = some _), ?_⟩; ((conv=>whnf);repeat (first|apply Hs|apply Hx);conv=>whnf)
  obtain ⟨r1, hm, hcall⟩ := implies_Plain_walk hm O.has
  refine ⟨_, _, hcall, ?_⟩; ((conv=>whnf);repeat (first|apply Cs|apply Hs|apply Hx);conv=>whnf)
  refine ⟨_, rfl, fun hc => ?_, fun hc => ?_⟩
  ·replace hm := hm.1 hc
   apply Cs;((conv=>whnf);repeat (first|apply Cs|apply Hs|apply Hx);conv=>whnf)
   exact ⟨([], false, r1), hm, O.ext, fun h2 F => VLe.tup (LLe.cons (VLe.nil _ _) (LLe.cons (VLe.refl _ _) (LLe.cons (VLe.refl _ _) (LLe.nil _))))⟩
  ·replace hm := hm.2 hc
   apply Cs;conv=>whnf
   refine CodeS.joinWS hm (nn := 125) (σ := Unit × Unit) (fun s => s.1) (fun (_, _) h => Own vars h0 [] h ∧ True) (fun (_, _) => [(1, ((encL 2 encAsgZ) p1)), (2, (FP (encCirc p0)))]) rfl (fun hm' => ?_) ?_
   ·replace hm := hm'
    apply Cs;((conv=>whnf);repeat (first|apply Cs|apply Hs|apply Hx);conv=>whnf)
    refine lenM (s := 2) (enc := encAsgZ) (l := p1) rfl rfl ?_; ((conv=>whnf);repeat (first|apply Cs|apply Hs|apply Hx);conv=>whnf)
    refine loopWK hM (by kernel_rfl) (nn := 125) (S := Nat) (σ := Nat × Unit) (fun s => s.1) (fun (v3, _) h => Own vars h0 [] h ∧ True) (fun (v3, _) => [(1, ((encL 2 encAsgZ) p1)), (2, (FP (encCirc p0))), (20, ((encL 2 encAsgZ) p1)), (21, (i64 p1.length)), (22, (i64 v3))]) rfl (0, ()) hm ⟨O, trivial⟩ ⟨VLe.refl _ _, VLe.refl _ _, VLe.refl _ _, VLe.refl _ _, VLe.refl _ _, trivial⟩ ?_
    clear hm; rintro ⟨v3, _⟩ nx4 base h hm ⟨O, _⟩
    ((conv=>whnf);repeat (first|apply Cs|apply Hs|apply Hx);conv=>whnf)
    refine ⟨_, rfl, fun hc => ?_, fun hc => ?_⟩
    ·replace hm := hm.1 hc
     apply Cs;((conv=>whnf);repeat (first|apply Cs|apply Hs|apply Hx);conv=>whnf)
     obtain ⟨x5, hx5, hm⟩ := hm
     refine flAtM (s := 2) (enc := encAsgZ) (j := v3) rfl rfl rfl rfl hx5 ?_; ((conv=>whnf);repeat (first|apply Hs|apply Hx);conv=>whnf)
     refine ⟨_, (rfl : aread _ _ _ _ = some _), ?_⟩; ((conv=>whnf);repeat (first|apply Hs|apply Hx);conv=>whnf)
     refine O.new (anew_alloc (l := [(i64 0), (n8 0)]) rfl rfl rfl) fun g6 h O => ?_; ((conv=>whnf);repeat (first|apply Hs|apply Hx);conv=>whnf)
     refine O.store (n := 2) (cs' := [(z64 x5.net), (n8 x5.value)]) (.head _) rfl rfl rfl rfl (Nat.le_of_ble_eq_true rfl) rfl rfl fun h O => ?_; ((conv=>whnf);repeat (first|apply Hs|apply Hx);conv=>whnf)
     refine CodeS.joinWS hm (nn := 125) (σ := Bool × Unit) (fun s => s.1) (fun (v8, _) h => Own vars h0 [] h ∧ True) (fun (v8, _) => [(1, ((encL 2 encAsgZ) p1)), (2, (FP (encCirc p0))), (20, ((encL 2 encAsgZ) p1)), (21, (i64 p1.length)), (22, (i64 v3)), (42, (.bool v8))]) rfl (fun hm' => ?_) ?_
     ·replace hm := hm'
      apply Cs;((conv=>whnf);repeat (first|apply Cs|apply Hs|apply Hx);conv=>whnf)
      refine ⟨_, loadK rfl (O.at (.head _)) rfl rfl, ?_⟩; ((conv=>whnf);repeat (first|apply Hs|apply Hx);conv=>whnf)
      refine ⟨_, rfl, fun hc => ?_, fun hc => ?_⟩
      ·replace hm := hm.1 hc; ((conv=>whnf);repeat (first|apply Hs|apply Hx);conv=>whnf)
       refine ⟨true, rfl, fun _ => ?_, (fun hc => nomatch hc)⟩; ((conv=>whnf);repeat (first|apply Hs|apply Hx);conv=>whnf)
       exact ⟨(true, ()), hm, ⟨(O.sel [] (by decide)), trivial⟩, VLe.refl _ _, VLe.refl _ _, VLe.refl _ _, VLe.refl _ _, VLe.refl _ _, VLe.refl _ _, trivial⟩
      ·replace hm := hm.2 hc; ((conv=>whnf);repeat (first|apply Hs|apply Hx);conv=>whnf)
       refine ⟨_, loadK rfl (O.at (.head _)) rfl rfl, ?_⟩; ((conv=>whnf);repeat (first|apply Hs|apply Hx);conv=>whnf)
       refine ⟨_, (rfl : aread _ _ _ _ = some _), ?_⟩; ((conv=>whnf);repeat (first|apply Hs|apply Hx);conv=>whnf)
       refine lenM (s := 4) (enc := encNode) (l := p0.nodes) rfl rfl ?_; ((conv=>whnf);repeat (first|apply Hs|apply Hx);conv=>whnf)
       refine ⟨_, rfl, fun hc => ?_, fun hc => ?_⟩
       ·replace hm := hm.1 hc; ((conv=>whnf);repeat (first|apply Hs|apply Hx);conv=>whnf)
        exact ⟨(true, ()), hm, ⟨(O.sel [] (by decide)), trivial⟩, VLe.refl _ _, VLe.refl _ _, VLe.refl _ _, VLe.refl _ _, VLe.refl _ _, VLe.refl _ _, trivial⟩
       ·replace hm := hm.2 hc; ((conv=>whnf);repeat (first|apply Hs|apply Hx);conv=>whnf)
        refine ⟨_, loadK rfl (O.at (.head _)) rfl rfl, ?_⟩; ((conv=>whnf);repeat (first|apply Hs|apply Hx);conv=>whnf)
        obtain ⟨r10, hm, hcall⟩ := logic_Known_walk hm O.has
        refine ⟨_, _, hcall, ?_⟩; ((conv=>whnf);repeat (first|apply Hs|apply Hx);conv=>whnf)
        exact ⟨((!r10), ()), hm, ⟨(O.sel [] (by decide)), trivial⟩, VLe.refl _ _, VLe.refl _ _, VLe.refl _ _, VLe.refl _ _, VLe.refl _ _, VLe.refl _ _, trivial⟩
     ·clear hm; rintro ⟨v8, _⟩ base h hm ⟨O, _⟩
      ((conv=>whnf);repeat (first|apply Cs|apply Hs|apply Hx);conv=>whnf)
      refine ⟨_, rfl, fun hc => ?_, fun hc => ?_⟩
      ·replace hm := hm.1 hc
       apply Cs;((conv=>whnf);repeat (first|apply Cs|apply Hs|apply Hx);conv=>whnf)
       exact ⟨([], false, 1), hm, O.ext, fun h2 F => VLe.tup (LLe.cons (VLe.nil _ _) (LLe.cons (VLe.refl _ _) (LLe.cons (VLe.refl _ _) (LLe.nil _))))⟩
      ·replace hm := hm.2 hc
       apply Cs;((conv=>whnf);repeat (first|apply Cs|apply Hs|apply Hx);conv=>whnf)
       refine ⟨_, addK (a := v3) (b := 1) rfl rfl hm.1, ?_⟩; ((conv=>whnf);repeat (first|apply Hs|apply Hx);conv=>whnf)
       replace hm := hm.2
       exact ⟨((v3 + 1), ()), hm, ⟨O, trivial⟩, VLe.refl _ _, VLe.refl _ _, VLe.refl _ _, VLe.refl _ _, VLe.refl _ _, trivial⟩
    ·replace hm := hm.2 hc
     apply Cs;((conv=>whnf);repeat (first|apply Cs|apply Hs|apply Hx);conv=>whnf)
     exact ⟨((), ()), hm, ⟨O, trivial⟩, VLe.refl _ _, VLe.refl _ _, trivial⟩
   ·clear hm; rintro ⟨_, _⟩ base h hm ⟨O, _⟩
    ((conv=>whnf);repeat (first|apply Cs|apply Hs|apply Hx);conv=>whnf)
    refine ⟨_, (rfl : aread _ _ _ _ = some _), ?_⟩; ((conv=>whnf);repeat (first|apply Hs|apply Hx);conv=>whnf)
    first | refine ⟨.inr (.inr (rfl)), ?_⟩ | refine ⟨.inr (.inl (by kernel_rfl)), ?_⟩
    ((conv=>whnf);repeat (first|apply Cs|apply Hs|apply Hx);conv=>whnf)
    refine ⟨_, (rfl : aread _ _ _ _ = some _), ?_⟩; ((conv=>whnf);repeat (first|apply Hs|apply Hx);conv=>whnf)
    first | refine ⟨.inr (.inr (rfl)), ?_⟩ | refine ⟨.inr (.inl (by kernel_rfl)), ?_⟩
    ((conv=>whnf);repeat (first|apply Cs|apply Hs|apply Hx);conv=>whnf)
    obtain ⟨r11, hm, hcall⟩ := netlists_Fanout_walk hm O.has
    refine ⟨_, _, hcall, ?_⟩; ((conv=>whnf);repeat (first|apply Hs|apply Hx);conv=>whnf)
    refine ⟨.inl (Ext.refl _), ?_⟩; ((conv=>whnf);repeat (first|apply Hs|apply Hx);conv=>whnf)
    refine ⟨_, (rfl : aread _ _ _ _ = some _), ?_⟩; ((conv=>whnf);repeat (first|apply Hs|apply Hx);conv=>whnf)
    first | refine ⟨.inr (.inr (rfl)), ?_⟩ | refine ⟨.inr (.inl (by kernel_rfl)), ?_⟩
    ((conv=>whnf);repeat (first|apply Cs|apply Hs|apply Hx);conv=>whnf)
    refine lenM (s := 4) (enc := encNode) (l := p0.nodes) rfl rfl ?_; ((conv=>whnf);repeat (first|apply Hs|apply Hx);conv=>whnf)
    refine O.makeLX (enc := n8) (z := 0) (b := 1) (s := 1) (n := p0.nodes.length) rfl rfl rfl rfl rfl (by decide) (by kernel_rfl) rfl rfl hm.1 hm.2.1 fun g12 h O => ?_; ((conv=>whnf);repeat (first|apply Hs|apply Hx);conv=>whnf)
    replace hm := hm.2.2
    have O := O.addNil (.cells ([] ++ flatC ((([] : List Nat)).map i64)) false)
    refine O.newX (boxK rfl) fun g14 h O => ?_; ((conv=>whnf);repeat (first|apply Hs|apply Hx);conv=>whnf)
    refine CodeS.joinWS hm (nn := 125) (σ := ((List Nat) × (List Nat)) × (Option Nat × (List Value) × Nat)) (fun s => s.1) (fun ((v17, v21), (a18, a19, a20)) h => (a18 = none → v21 = []) ∧ (a19.length = a20) ∧ Own vars h0 [((some g14), .cells [((encL 4 encNode) p0.nodes), ((encL 1 Value.string) p0.names), ((encL 3 encMem) p0.mems), ((encL 1 i64) p0.outs), ((encL 1 (encL 2 encLn)) r11), (.slice (some ⟨g12, 0, none⟩) p0.nodes.length p0.nodes.length), (tailV 1 a18 a20 (v21.map i64))] false), ((some g12), .cells (flatC (v17.map n8)) false), (a18, .cells (a19 ++ flatC (v21.map i64)) false)] h ∧ True) (fun ((v17, v21), (a18, a19, a20)) => [(1, ((encL 2 encAsgZ) p1)), (2, (FP (encCirc p0))), (10, (.pointer (some ⟨g14, 0, none⟩)))]) rfl (fun hm' => ?_) ?_
    ·replace hm := hm'
     apply Cs;((conv=>whnf);repeat (first|apply Cs|apply Hs|apply Hx);conv=>whnf)
     refine ⟨_, (rfl : aread _ _ _ _ = some _), ?_⟩; ((conv=>whnf);repeat (first|apply Hs|apply Hx);conv=>whnf)
     refine lenM (s := 4) (enc := encNode) (l := p0.nodes) rfl rfl ?_; ((conv=>whnf);repeat (first|apply Cs|apply Hs|apply Hx);conv=>whnf)
     refine loopWK hM (by kernel_rfl) (nn := 125) (S := ((List Nat) × (List Nat) × Nat)) (σ := ((List Nat) × (List Nat) × Nat) × (Option Nat × (List Value) × Nat)) (fun s => s.1) (fun ((v25, v29, v30), (a26, a27, a28)) h => (a26 = none → v29 = []) ∧ (a27.length = a28) ∧ Own vars h0 [((some g14), .cells [((encL 4 encNode) p0.nodes), ((encL 1 Value.string) p0.names), ((encL 3 encMem) p0.mems), ((encL 1 i64) p0.outs), ((encL 1 (encL 2 encLn)) r11), (.slice (some ⟨g12, 0, none⟩) p0.nodes.length p0.nodes.length), (tailV 1 a26 a28 (v29.map i64))] false), ((some g12), .cells (flatC (v25.map n8)) false), (a26, .cells (a27 ++ flatC (v29.map i64)) false)] h ∧ True) (fun ((v25, v29, v30), (a26, a27, a28)) => [(1, ((encL 2 encAsgZ) p1)), (2, (FP (encCirc p0))), (10, (.pointer (some ⟨g14, 0, none⟩))), (55, (i64 p0.nodes.length)), (56, (i64 v30))]) rfl (((List.replicate p0.nodes.length (0 : Nat)), ([] : List Nat), 0), (none, [], 0)) hm ⟨(fun _ => rfl), rfl, (O.sel [0, 2, 1] (by decide)), trivial⟩ ⟨VLe.refl _ _, VLe.refl _ _, VLe.refl _ _, VLe.refl _ _, VLe.refl _ _, trivial⟩ ?_
     clear hm; rintro ⟨⟨v25, v29, v30⟩, ⟨a26, a27, a28⟩⟩ nx33 base h hm ⟨ha31, hp32, O, _⟩
     ((conv=>whnf);repeat (first|apply Cs|apply Hs|apply Hx);conv=>whnf)
     refine ⟨_, rfl, fun hc => ?_, fun hc => ?_⟩
     ·replace hm := hm.1 hc
      apply Cs;((conv=>whnf);repeat (first|apply Cs|apply Hs|apply Hx);conv=>whnf)
      refine ⟨_, loadK rfl (O.at (.head _)) rfl rfl, ?_⟩; ((conv=>whnf);repeat (first|apply Hs|apply Hx);conv=>whnf)
      obtain ⟨hj, x34, hx34, hm⟩ := hm
      refine indexK (s := 1) (j := v30) rfl rfl rfl rfl hj ?_; ((conv=>whnf);repeat (first|apply Hs|apply Hx);conv=>whnf)
      refine O.store (n := 1) (.tail _ (.head _)) rfl rfl rfl rfl (el_le (enc := n8) (s := 1) (k := 0) (n := 1) (fun _ => rfl) (lt_of_get hx34) (Nat.le_of_ble_eq_true rfl)) rfl (splice_all (enc := n8) (s := 1) (fun _ => rfl) (lt_of_get hx34) (x := 2) rfl) fun h O => ?_; ((conv=>whnf);repeat (first|apply Cs|apply Hs|apply Hx);conv=>whnf)
      refine ⟨_, loadK rfl (O.at (.head _)) rfl rfl, ?_⟩; ((conv=>whnf);repeat (first|apply Hs|apply Hx);conv=>whnf)
      refine NewG.frz rfl ?_; ((conv=>whnf);repeat (first|apply Hs|apply Hx);conv=>whnf)
      refine Own.appendT (enc := i64) (l := v29) (new := ([v30] : (List Nat))) (s := 1) (b := 8) hp32 O (.tail _ (.tail _ (.head _))) ha31 rfl rfl rfl rfl rfl rfl rfl rfl (YOk.fl rfl) (fun _ => rfl) (fun _ => rfl) (by decide) hm.1 fun a35 q37 o38 h hp39 ha36 O => ?_; ((conv=>whnf);repeat (first|apply Hs|apply Hx);conv=>whnf)
      replace hm := hm.2
      refine O.store (n := 1) (cs' := [((encL 4 encNode) p0.nodes), ((encL 1 Value.string) p0.names), ((encL 3 encMem) p0.mems), ((encL 1 i64) p0.outs), ((encL 1 (encL 2 encLn)) r11), (.slice (some ⟨g12, 0, none⟩) p0.nodes.length p0.nodes.length), (tailV 1 a35 o38 ((v29 ++ ([v30] : (List Nat))).map i64))]) (.head _) rfl rfl rfl rfl (Nat.le_of_ble_eq_true rfl) rfl rfl fun h O => ?_; ((conv=>whnf);repeat (first|apply Cs|apply Hs|apply Hx);conv=>whnf)
      refine ⟨_, addK (a := v30) (b := 1) rfl rfl hm.1, ?_⟩; ((conv=>whnf);repeat (first|apply Hs|apply Hx);conv=>whnf)
      replace hm := hm.2
      exact ⟨(((v25.set v30 2), (v29 ++ ([v30] : (List Nat))), (v30 + 1)), (a35, q37, o38)), hm, ⟨ha36, hp39, O, trivial⟩, VLe.refl _ _, VLe.refl _ _, VLe.refl _ _, VLe.refl _ _, VLe.refl _ _, trivial⟩
     ·replace hm := hm.2 hc
      apply Cs;((conv=>whnf);repeat (first|apply Cs|apply Hs|apply Hx);conv=>whnf)
      exact ⟨((v25, v29), (a26, a27, a28)), hm, ⟨ha31, hp32, O, trivial⟩, VLe.refl _ _, VLe.refl _ _, VLe.refl _ _, trivial⟩
    ·clear hm; rintro ⟨⟨v17, v21⟩, ⟨a18, a19, a20⟩⟩ base h hm ⟨ha22, hp23, O, _⟩
     conv=>whnf
     refine CodeS.joinWS hm (nn := 125) (σ := Unit × (List Value)) (fun s => s.1) (fun (_, a40) h => (a18 = none → v21 = []) ∧ (a40.length = a20) ∧ Own vars h0 [((some g14), .cells [((encL 4 encNode) p0.nodes), ((encL 1 Value.string) p0.names), ((encL 3 encMem) p0.mems), ((encL 1 i64) p0.outs), ((encL 1 (encL 2 encLn)) r11), (.slice (some ⟨g12, 0, none⟩) p0.nodes.length p0.nodes.length), (tailV 1 a18 a20 (v21.map i64))] false), ((some g12), .cells (flatC (v17.map n8)) false), (a18, .cells (a40 ++ flatC (v21.map i64)) false)] h ∧ True) (fun (_, a40) => [(2, (FP (encCirc p0))), (10, (.pointer (some ⟨g14, 0, none⟩)))]) rfl (fun hm' => ?_) ?_
     ·replace hm := hm'
      apply Cs;((conv=>whnf);repeat (first|apply Cs|apply Hs|apply Hx);conv=>whnf)
      refine lenM (s := 2) (enc := encAsgZ) (l := p1) rfl rfl ?_; ((conv=>whnf);repeat (first|apply Cs|apply Hs|apply Hx);conv=>whnf)
      refine loopWK hM (by kernel_rfl) (nn := 125) (S := Unit) (σ := Unit × Unit) (fun s => s.1) (fun (_, _) h => (a18 = none → v21 = []) ∧ (a19.length = a20) ∧ Own vars h0 [((some g14), .cells [((encL 4 encNode) p0.nodes), ((encL 1 Value.string) p0.names), ((encL 3 encMem) p0.mems), ((encL 1 i64) p0.outs), ((encL 1 (encL 2 encLn)) r11), (.slice (some ⟨g12, 0, none⟩) p0.nodes.length p0.nodes.length), (tailV 1 a18 a20 (v21.map i64))] false), ((some g12), .cells (flatC (v17.map n8)) false), (a18, .cells (a19 ++ flatC (v21.map i64)) false)] h ∧ True) (fun (_, _) => [(2, (FP (encCirc p0))), (10, (.pointer (some ⟨g14, 0, none⟩))), (76, ((encL 2 encAsgZ) p1)), (77, (i64 p1.length)), (78, (i64 0))]) rfl ((), ()) hm ⟨ha22, hp23, O, trivial⟩ ⟨VLe.refl _ _, VLe.refl _ _, VLe.refl _ _, VLe.refl _ _, VLe.refl _ _, trivial⟩ ?_
      clear hm; rintro ⟨_, _⟩ nx46 base h hm ⟨ha44, hp45, O, _⟩
      ((conv=>whnf);repeat (first|apply Cs|apply Hs|apply Hx);conv=>whnf)
      refine ⟨_, rfl, fun hc => ?_, fun hc => ?_⟩
      ·replace hm := hm.1 hc
       apply Cs;((conv=>whnf);repeat (first|apply Cs|apply Hs|apply Hx);conv=>whnf)
       obtain ⟨x47, hx47, hm⟩ := hm
       refine flAtM (s := 2) (enc := encAsgZ) (j := 0) rfl rfl rfl rfl hx47 ?_; ((conv=>whnf);repeat (first|apply Hs|apply Hx);conv=>whnf)
       refine ⟨_, (rfl : aread _ _ _ _ = some _), ?_⟩; ((conv=>whnf);repeat (first|apply Hs|apply Hx);conv=>whnf)
       refine O.new (anew_alloc (l := [(i64 0), (n8 0)]) rfl rfl rfl) fun g48 h O => ?_; ((conv=>whnf);repeat (first|apply Hs|apply Hx);conv=>whnf)
       refine O.store (n := 2) (cs' := [(z64 x47.net), (n8 x47.value)]) (.head _) rfl rfl rfl rfl (Nat.le_of_ble_eq_true rfl) rfl rfl fun h O => ?_; ((conv=>whnf);repeat (first|apply Cs|apply Hs|apply Hx);conv=>whnf)
       refine ⟨_, loadK rfl (O.at (.head _)) rfl rfl, ?_⟩; ((conv=>whnf);repeat (first|apply Hs|apply Hx);conv=>whnf)
       refine ⟨_, loadK rfl (O.at (.head _)) rfl rfl, ?_⟩; ((conv=>whnf);repeat (first|apply Hs|apply Hx);conv=>whnf)
       exact False.elim hm
      ·replace hm := hm.2 hc
       apply Cs;((conv=>whnf);repeat (first|apply Cs|apply Hs|apply Hx);conv=>whnf)
       exact ⟨((), a19), hm, ⟨ha44, hp45, O, trivial⟩, VLe.refl _ _, VLe.refl _ _, trivial⟩
     ·clear hm; rintro ⟨_, a40⟩ base h hm ⟨ha41, hp42, O, _⟩
      conv=>whnf
      apply Cs;conv=>whnf
      apply Cs;conv=>whnf
      refine CodeS.joinWS hm (nn := 125) (σ := (List Nat) × (Option Nat × (List Value) × Nat)) (fun s => s.1) (fun (v53, (a50, a51, a52)) h => (a50 = none → v53 = []) ∧ (a51.length = a52) ∧ Own vars h0 [((some g14), .cells [((encL 4 encNode) p0.nodes), ((encL 1 Value.string) p0.names), ((encL 3 encMem) p0.mems), ((encL 1 i64) p0.outs), ((encL 1 (encL 2 encLn)) r11), (.slice (some ⟨g12, 0, none⟩) p0.nodes.length p0.nodes.length), (tailV 1 a50 a52 (v53.map i64))] false), ((some g12), .cells (flatC (v17.map n8)) false), (a50, .cells (a51 ++ flatC (v53.map i64)) false)] h ∧ True) (fun (v53, (a50, a51, a52)) => [(10, (.pointer (some ⟨g14, 0, none⟩)))]) rfl (fun hm' => ?_) ?_
      ·replace hm := hm'
       apply Cs;((conv=>whnf);repeat (first|apply Cs|apply Hs|apply Hx);conv=>whnf)
       refine loopWK hM (by kernel_rfl) (nn := 125) (S := (List Nat)) (σ := (List Nat) × (Option Nat × (List Value) × Nat)) (fun s => s.1) (fun (v60, (a57, a58, a59)) h => (a57 = none → v60 = []) ∧ (a58.length = a59) ∧ Own vars h0 [((some g14), .cells [((encL 4 encNode) p0.nodes), ((encL 1 Value.string) p0.names), ((encL 3 encMem) p0.mems), ((encL 1 i64) p0.outs), ((encL 1 (encL 2 encLn)) r11), (.slice (some ⟨g12, 0, none⟩) p0.nodes.length p0.nodes.length), (tailV 1 a57 a59 (v60.map i64))] false), ((some g12), .cells (flatC (v17.map n8)) false), (a57, .cells (a58 ++ flatC (v60.map i64)) false)] h ∧ True) (fun (v60, (a57, a58, a59)) => [(2, (FP (encCirc p0))), (10, (.pointer (some ⟨g14, 0, none⟩)))]) rfl (v21, (a18, a40, a20)) hm ⟨ha41, hp42, O, trivial⟩ ⟨VLe.refl _ _, VLe.refl _ _, trivial⟩ ?_
       clear hm; rintro ⟨v60, ⟨a57, a58, a59⟩⟩ nx63 base h hm ⟨ha61, hp62, O, _⟩
       ((conv=>whnf);repeat (first|apply Cs|apply Hs|apply Hx);conv=>whnf)
       refine ⟨_, loadK rfl (O.at (.head _)) rfl rfl, ?_⟩; ((conv=>whnf);repeat (first|apply Hs|apply Hx);conv=>whnf)
       refine lenG (enc := i64) (l := v60) rfl rfl ?_; ((conv=>whnf);repeat (first|apply Cs|apply Hs|apply Hx);conv=>whnf)
       refine ⟨_, rfl, fun hc => ?_, fun hc => ?_⟩
       ·replace hm := hm.1 hc
        apply Cs;((conv=>whnf);repeat (first|apply Cs|apply Hs|apply Hx);conv=>whnf)
        refine ⟨_, loadK rfl (O.at (.head _)) rfl rfl, ?_⟩; ((conv=>whnf);repeat (first|apply Hs|apply Hx);conv=>whnf)
        obtain ⟨x64, hx64, hm⟩ := hm
        obtain ⟨g65, rfl⟩ := addr_some ha61 hx64
        refine tailAtK (s := 1) (enc := i64) (o := a59) (j := 0) rfl rfl rfl rfl hx64 ?_; ((conv=>whnf);repeat (first|apply Hs|apply Hx);conv=>whnf)
        refine ⟨_, loadK rfl (O.at (.tail _ (.tail _ (.head _)))) rfl (tail_cell (enc := i64) (s := 1) (k := 0) hp62 (fun _ => rfl) hx64 rfl), ?_⟩; ((conv=>whnf);repeat (first|apply Cs|apply Hs|apply Hx);conv=>whnf)
        refine ⟨_, loadK rfl (O.at (.head _)) rfl rfl, ?_⟩; ((conv=>whnf);repeat (first|apply Hs|apply Hx);conv=>whnf)
        refine tailFromK (s := 1) (enc := i64) (l := v60) (o := a59) (k := 1) rfl rfl rfl rfl hm.1 ?_; ((conv=>whnf);repeat (first|apply Hs|apply Hx);conv=>whnf)
        rw [tail_split (enc := i64) (l := v60) 1] at O
        have hp66 := tail_len (enc := i64) (l := v60) (s := 1) (k := 1) (fun _ => rfl) hp62 hm.1
        replace hm := hm.2
        refine O.store (n := 1) (cs' := [((encL 4 encNode) p0.nodes), ((encL 1 Value.string) p0.names), ((encL 3 encMem) p0.mems), ((encL 1 i64) p0.outs), ((encL 1 (encL 2 encLn)) r11), (.slice (some ⟨g12, 0, none⟩) p0.nodes.length p0.nodes.length), (tailV 1 (some g65) (a59 + 1 * 1) ((v60.drop 1).map i64))]) (.head _) rfl rfl rfl rfl (Nat.le_of_ble_eq_true rfl) rfl rfl fun h O => ?_; ((conv=>whnf);repeat (first|apply Cs|apply Hs|apply Hx);conv=>whnf)
        refine ⟨_, (rfl : aread _ _ _ _ = some _), ?_⟩; ((conv=>whnf);repeat (first|apply Hs|apply Hx);conv=>whnf)
        obtain ⟨x67, hx67, hm⟩ := hm
        refine flAtM (s := 4) (enc := encNode) (j := x64) rfl rfl rfl rfl hx67 ?_; ((conv=>whnf);repeat (first|apply Hs|apply Hx);conv=>whnf)
        refine ⟨_, (rfl : aread _ _ _ _ = some _), ?_⟩; ((conv=>whnf);repeat (first|apply Hs|apply Hx);conv=>whnf)
        obtain ⟨r68, hm, hcall⟩ := implies_free_walk hm O.has
        refine ⟨_, _, hcall, ?_⟩; ((conv=>whnf);repeat (first|apply Cs|apply Hs|apply Hx);conv=>whnf)
        refine ⟨_, rfl, fun hc => ?_, fun hc => ?_⟩
        ·replace hm := hm.1 hc
         apply Cs;((conv=>whnf);repeat (first|apply Cs|apply Hs|apply Hx);conv=>whnf)
         exact ⟨((v60.drop 1), ((some g65), (a58 ++ flatC ((v60.take 1).map i64)), (a59 + 1 * 1))), hm, ⟨someNone, hp66, O, trivial⟩, VLe.refl _ _, VLe.refl _ _, trivial⟩
        ·replace hm := hm.2 hc
         apply Cs;((conv=>whnf);repeat (first|apply Cs|apply Hs|apply Hx);conv=>whnf)
         exact False.elim hm
       ·replace hm := hm.2 hc
        apply Cs;((conv=>whnf);repeat (first|apply Cs|apply Hs|apply Hx);conv=>whnf)
        exact ⟨(v60, (a57, a58, a59)), hm, ⟨ha61, hp62, O, trivial⟩, VLe.refl _ _, trivial⟩
      ·clear hm; rintro ⟨v53, ⟨a50, a51, a52⟩⟩ base h hm ⟨ha54, hp55, O, _⟩
       ((conv=>whnf);repeat (first|apply Cs|apply Hs|apply Hx);conv=>whnf)
       refine ⟨_, loadK rfl (O.at (.head _)) rfl rfl, ?_⟩; ((conv=>whnf);repeat (first|apply Cs|apply Hs|apply Hx);conv=>whnf)
       obtain ⟨hn69, hm⟩ := hm
       exact ⟨(v17, true, 0), hm, O.ext, fun h2 F => VLe.tup (LLe.cons (O.flatL F (Nat.le_refl _) (.tail _ (.head _)) (fun _ => rfl) hn69) (LLe.cons (VLe.refl _ _) (LLe.cons (VLe.refl _ _) (LLe.nil _))))⟩
end Go.Proofs.YtfhldkgelipnaaaDoor

namespace Go.Proofs.YtfhldkgelipnaaaDoor
open Go.Abs
set_option maxRecDepth 100000
def implies_CloseZ_wp (c : Circ) (given : List AsgZ) (K : List Nat × Bool × Nat → Prop) : Prop :=
  (∃ n v, given = [⟨Int.ofNat n, v⟩] ∧ implies_Close_wp c [⟨n, v⟩] K) ∨ implies_CloseN_wp c given K
theorem implies_CloseZ_walk {c : Circ} {given : List AsgZ} {K : List Nat × Bool × Nat → Prop} (hm : implies_CloseZ_wp c given K) {h0 : Heap} (hB : HasB vars h0) : ∃ r, K r ∧ CallD Tryd.prog NG 9 ⟨[encCirc c, (encL 2 encAsgZ) given]⟩ h0 ((fun (r : ((List Nat) × Bool × Nat)) => Value.tuple ⟨[(encL 1 n8) (r.1), Value.bool (r.2.1), i64 (r.2.2)]⟩) r) h0 := by
  rcases hm with ⟨n, v, rfl, hm⟩ | hm
  · exact implies_Close_walk hm hB
  · exact implies_CloseN_walk hm hB
end Go.Proofs.YtfhldkgelipnaaaDoor

namespace Go.Proofs.YtfhldkgelipnaaaDoor
open Go.Abs
set_option maxRecDepth 100000
theorem circ_few3' (x : CData) : Few3 (circN x) := by
  intro i y h
  rcases circ_node' h with ⟨_, rfl⟩ | ⟨_, _, d, _, rfl⟩ | ⟨_, e⟩ | ⟨_, _, g, rfl⟩
  · exact Nat.zero_le _
  · show (1 : Nat) ≤ 3; decide
  · rcases e with rfl | rfl <;> exact Nat.zero_le _
  · exact gateK_few _ _ _
/-- Why a circuit is not plain, or 0. -/
def wantN (c : Circ) : Nat := if (ltN 0 c.mems.length || ltN 0 (ofN c [12, 13, 15]).length) = true then 7 else 0
theorem want_or (c : Circ) : wantN c = 0 ∨ wantN c = 7 := by
  unfold wantN
  by_cases h : (ltN 0 c.mems.length || ltN 0 (ofN c [12, 13, 15]).length) = true
  · exact .inr (if_pos h)
  · exact .inl (if_neg h)
theorem want_pln {c : Circ} (G : Good c) (h : wantN c = 0) : Pln c := by
  unfold wantN at h
  by_cases q : (ltN 0 c.mems.length || ltN 0 (ofN c [12, 13, 15]).length) = true
  · rw [if_pos q] at h; cases h
  · have q : (ltN 0 c.mems.length || ltN 0 (ofN c [12, 13, 15]).length) = false := by simpa using q
    rw [Bool.or_eq_false_iff] at q
    have q1 := lt_f.1 q.1
    have q2 := lt_f.1 q.2
    refine ⟨G, List.length_eq_zero_iff.1 (by omega), fun i y hy => ?_⟩
    have e : ofN c [12, 13, 15] = [] := List.length_eq_zero_iff.1 (by omega)
    unfold ofN at e
    rw [List.filter_eq_nil_iff] at e
    have := e i (List.mem_range.2 (lt_of_get hy))
    rw [List.getD, List.getElem?_map, hy] at this
    simp at this
    omega
theorem plainW_vc {c : Circ} {K : Nat → Prop} (G : Good c) (h : K (wantN c)) : implies_Plain_wp c K := by
  have hlen := G.len
  unfold implies_Plain_wp
  refine check_vc G ⟨fun q => absurd rfl (ne_t.1 q), fun _ => joinB (a := ltN 0 c.mems.length || ltN 0 (ofN c [12, 13, 15]).length) (fun F => ⟨fun q => ?_, fun q => of_vc (by omega) (by decide) ?_⟩) ?_⟩
  · rw [q, Bool.true_or] at F; exact F
  · rw [q, Bool.false_or] at F; exact F
  · unfold wantN at h
    exact ⟨fun e => by rw [if_pos e] at h; exact h, fun e => by rw [if_neg (by rw [e]; decide)] at h; exact h⟩
theorem above_some {l : List Nat} {K : Bool → Prop} (hl : l.length < 2 ^ 60) (hv : ∃ v ∈ l, 2 < v) (h : K true) : cf_above_wp l K := by
  unfold cf_above_wp cf_aboveI_wp
  have e : ∀ i : Nat, (!ltI (Int.ofNat i) (Int.ofNat 0)) = true := fun i => by
    have : ltI (Int.ofNat i) (Int.ofNat 0) = false := ltZ_f.2 (Int.natCast_nonneg i)
    rw [this]; rfl
  refine joinLoop (fun i => i ≤ l.length ∧ ∃ j v, i ≤ j ∧ l[j]? = some v ∧ 2 < v) (fun i => l.length - i) (fun _ => False) ?_ ⟨Nat.zero_le _, ?_⟩ (fun _ e => e.elim)
  · rintro k i nx ⟨hi, j, v, h1, h2, h3⟩ hnx hk
    have := lt_of_get h2
    obtain ⟨x, hx⟩ := get_lt (l := l) (i := i) (by omega)
    refine ⟨fun _ => ⟨x, hx, fun _ => ?_, fun q => ⟨by omega, hnx _ ⟨by omega, j, v, ?_, h2, h3⟩ (by omega)⟩⟩, fun q => ?_⟩
    · show K (!ltI (Int.ofNat i) (Int.ofNat 0))
      rw [e]; exact h
    · have q := lt_f.1 q
      by_cases e : i = j
      · subst e; rw [hx] at h2; cases h2; omega
      · omega
    · have := lt_f.1 q; omega
  · obtain ⟨v, m, h3⟩ := hv
    obtain ⟨j, hj, e⟩ := List.getElem_of_mem m
    exact ⟨j, v, Nat.zero_le _, by rw [List.getElem?_eq_getElem hj, e], h3⟩
/-- The values, and what is said of them. -/
def OpenOk (c : Circ) (vs : List Nat) (o : Nat) : Prop :=
  (wantN c ≠ 0 ∧ o = wantN c) ∨ (wantN c = 0 ∧ vs.length ≠ c.nodes.length ∧ o = 8) ∨ (wantN c = 0 ∧ vs.length = c.nodes.length ∧ (∃ v ∈ vs, 2 < v) ∧ o = 1) ∨ (wantN c = 0 ∧ vs.length = c.nodes.length ∧ (∀ v ∈ vs, v ≤ 2) ∧ o = 0)
theorem unj_res {c : Circ} (G : Good c) {vs : List Nat} {o : Nat} (h : OpenOk c vs o) (hl : vs.length < 2 ^ 60) {K : List Nat × Nat → Prop} (k : ∀ r, (o ≠ 0 → r = []) → K (r, o)) : implies_Unjustified_wp c vs K := by
  rcases h with ⟨h1, rfl⟩ | ⟨h1, h2, rfl⟩ | ⟨h1, h2, h3, rfl⟩ | ⟨h1, h2, h3, rfl⟩
  · unfold implies_Unjustified_wp
    exact plainW_vc G ⟨fun _ => k [] (fun _ => rfl), fun q => absurd (ne_f.1 q) h1⟩
  · unfold implies_Unjustified_wp
    refine plainW_vc G ?_
    rw [h1]
    exact ⟨fun q => absurd rfl (ne_t.1 q), fun _ => ⟨fun _ => k [] (fun _ => rfl), fun q => absurd (ne_f.1 q) h2⟩⟩
  · unfold implies_Unjustified_wp
    refine plainW_vc G ?_
    rw [h1]
    exact ⟨fun q => absurd rfl (ne_t.1 q), fun _ => ⟨fun q => absurd h2 (ne_t.1 q), fun _ => above_some hl h3 ⟨fun _ => k [] (fun _ => rfl), (fun q => by cases q)⟩⟩⟩
  · exact unjustified_vc (want_pln G h1) h2 h3 (k _ fun q => absurd rfl q)
/-- What is said of an assignment. -/
def givenE (c : Circ) (net : Int) (v : Nat) : Nat := if wantN c = 0 ∧ (net < 0 ∨ Int.ofNat c.nodes.length ≤ net ∨ 1 < v) then 1 else wantN c
theorem closeZ_res {c : Circ} (G : Good c) (f3 : Few3 c) {net : Int} {v : Nat} {K : List Nat × Bool × Nat → Prop} (k : ∀ r, r.2.2 = givenE c net v → (givenE c net v ≠ 0 → r.1 = [] ∧ r.2.1 = false) → K r) : implies_CloseZ_wp c [⟨net, v⟩] K := by
  have hlen := G.len
  by_cases hw : wantN c = 0
  · by_cases hb : net < 0 ∨ Int.ofNat c.nodes.length ≤ net ∨ 1 < v
    · have hg : givenE c net v = 1 := if_pos ⟨hw, hb⟩
      have hk : K ([], false, 1) := k _ hg.symm fun _ => ⟨rfl, rfl⟩
      refine .inr ?_
      unfold implies_CloseN_wp
      refine plainW_vc G ?_
      rw [hw]
      refine ⟨fun q => absurd rfl (ne_t.1 q), fun _ => ?_⟩
      refine joinLoop (fun i => i = 0) (fun _ => 0) (fun _ => False) ?_ rfl (fun _ e => e.elim)
      rintro k2 i nx rfl _ _
      refine ⟨fun _ => ⟨_, rfl, joinB (a := true) (fun F => ⟨fun _ => F, fun q1 => ⟨fun _ => F, fun q2 => known_vc ?_⟩⟩) ⟨fun _ => hk, (fun e => by cases e)⟩⟩, fun q => absurd (lt_f.1 q) (by rw [List.length_singleton]; decide)⟩
      have q1 := ltZ_f.1 q1
      have q2 : ltI net (Int.ofNat c.nodes.length) = true := by simpa using q2
      have q2 := ltZ_t.1 q2
      have : ¬ v ≤ 1 := by
        simp only at q1
        rcases hb with q | q | q
        · exact absurd q (by simp only [Int.ofNat_eq_natCast] at *; omega)
        · exact absurd q2 (by omega)
        · omega
      rw [decide_eq_false this]
      exact F
    · have hb1 : 0 ≤ net := by omega
      obtain ⟨n, rfl⟩ : ∃ n : Nat, net = Int.ofNat n := ⟨net.toNat, by simp; omega⟩
      have hg : givenE c (Int.ofNat n) v = 0 := by
        unfold givenE; rw [if_neg fun q => hb q.2]; exact hw
      refine .inl ⟨n, v, rfl, close_res (want_pln G hw) f3 ?_ (by rw [List.length_singleton]; decide) fun r R => k r (by rw [R.err, hg]) fun q => absurd hg q⟩
      intro a m
      rw [List.mem_singleton] at m
      subst m
      simp only [Int.ofNat_eq_natCast] at hb
      exact ⟨by show n < _; omega, by show v ≤ 1; omega⟩
  · have hg : givenE c net v = wantN c := if_neg fun q => hw q.1
    refine .inr ?_
    unfold implies_CloseN_wp
    exact plainW_vc G ⟨fun _ => k _ hg.symm fun _ => ⟨rfl, rfl⟩, fun q => absurd (ne_f.1 q) hw⟩
def goodK (k m : Nat) : Bool := (Nat.beq k 1 || Nat.beq k 2 || (Nat.ble 3 k && Nat.ble k 11)) && Nat.ble (loN k) m && decide (Int.ofNat m ≤ hiZ k)
theorem gate_unknown : ∀ m, m < 8 → ∀ k, k < 256 → okG k 2 (List.replicate m 2) = true ∧ (gateR k 2 (List.replicate m 2)).2.2 = goodK k m := by decide +kernel
theorem gateR_no {k o : Nat} {l : List Nat} (h : (gateR k o l).2.2 = false) : (gateR k o l).1 = 0 ∧ (gateR k o l).2.1 = [] := by
  unfold gateR at h ⊢
  split at h
  · exact ⟨rfl, rfl⟩
  · cases h
end Go.Proofs.YtfhldkgelipnaaaDoor

namespace Go.Proofs.YtfhldkgelipnaaaDoor
open Go.Abs
set_option maxRecDepth 100000
set_option maxHeartbeats 8000000
def probecardlaw24_ImpliesErrors_wp (p0 : CData) (p1 : Int) (p2 : (List Nat)) (K : Bool → Prop) : Prop :=
  ((ltN 8 p2.length) = true → law24_lives_wp  (fun r1 => K r1)) ∧ ((ltN 8 p2.length) = false → law03_Of_wp p0 (fun r2 => netlists_Check_wp r2 (fun r5 => joinW (α := Nat) (fun k7 => joinW (α := Bool) (fun k9 => ((eqN r5 0) = true → ((ltN 0 r2.mems.length) = true → k9 true) ∧ ((ltN 0 r2.mems.length) = false → netlists_Of_wp r2 ([12, 13, 15] : (List Nat)) (fun r10 => k9 (ltN 0 r10.length)))) ∧ ((eqN r5 0) = false → k9 false)) (fun v8 => (v8 = true → k7 7) ∧ (v8 = false → k7 r5))) (fun v6 => joinW (α := Nat) (fun k12 => ((ltN 0 p2.length) = true → ∃ x13, p2[0]? = some x13 ∧ k12 x13) ∧ ((ltN 0 p2.length) = false → k12 2)) (fun v11 => joinW (α := Nat) (fun k15 => joinW (α := Bool) (fun k17 => ((eqN v6 0) = true → ((ltI p1 (Int.ofNat 0)) = true → k17 true) ∧ ((ltI p1 (Int.ofNat 0)) = false → ((!ltI p1 (Int.ofNat r2.nodes.length)) = true → k17 true) ∧ ((!ltI p1 (Int.ofNat r2.nodes.length)) = false → k17 (ltN 1 v11)))) ∧ ((eqN v6 0) = false → k17 false)) (fun v16 => (v16 = true → k15 1) ∧ (v16 = false → k15 v6))) (fun v14 => 1 * r2.nodes.length ≤ 2 ^ 48 ∧ r2.nodes.length < 2 ^ 63 ∧ joinW (α := ((List Nat) × Nat)) (fun k24 => joinW (α := Bool) (fun k26 => ((ltN 1 p2.length) = true → ∃ x27, p2[1]? = some x27 ∧ 0 < 2 ∧ k26 (eqN (x27 % 2) 1)) ∧ ((ltN 1 p2.length) = false → k26 false)) (fun v25 => (v25 = true → ((List.replicate r2.nodes.length (0 : Nat)).length + ([0] : (List Nat)).length) * 1 ≤ 2 ^ 47 ∧ ((eqN v6 0) = true → k24 (((List.replicate r2.nodes.length (0 : Nat)) ++ ([0] : (List Nat))), 8)) ∧ ((eqN v6 0) = false → k24 (((List.replicate r2.nodes.length (0 : Nat)) ++ ([0] : (List Nat))), v6))) ∧ (v25 = false → k24 ((List.replicate r2.nodes.length (0 : Nat)), v6)))) (fun (v22, v23) => joinW (α := ((List Nat) × Nat)) (fun k34 => joinW (α := Bool) (fun k36 => ((ltN 0 v22.length) = true → k36 (ltN 2 p2.length)) ∧ ((ltN 0 v22.length) = false → k36 false)) (fun v35 => (v35 = true → ∃ x37, p2[2]? = some x37 ∧ x37 < 256 ∧ 0 < v22.length ∧ ∃ x38, p2[2]? = some x38 ∧ 0 < 5 ∧ ∃ x39, v22[(x37 % v22.length)]? = some x39 ∧ joinW (α := Bool) (fun k41 => ((eqN v23 0) = true → ∃ x42, p2[2]? = some x42 ∧ 0 < 5 ∧ k41 (ltN 2 (x42 % 5))) ∧ ((eqN v23 0) = false → k41 false)) (fun v40 => (v40 = true → k34 ((v22.set (x37 % v22.length) (x38 % 5)), 1)) ∧ (v40 = false → k34 ((v22.set (x37 % v22.length) (x38 % 5)), v23)))) ∧ (v35 = false → k34 (v22, v23)))) (fun (v32, v33) => implies_CloseZ_wp r2 ([(⟨p1, v11⟩ : AsgZ)] : (List AsgZ)) (fun r43 => implies_Unjustified_wp r2 v32 (fun r44 => joinW (α := Bool) (fun k46 => implies_Plain_wp r2 (fun r47 => ((neN r47 v6) = true → k46 true) ∧ ((neN r47 v6) = false → ((neN r43.2.2 v14) = true → k46 true) ∧ ((neN r43.2.2 v14) = false → ((neN r44.2 v33) = true → k46 true) ∧ ((neN r44.2 v33) = false → ((neN r43.2.2 0) = true → (r43.2.1 = true → k46 true) ∧ (r43.2.1 = false → ((ltN 0 r43.1.length) = true → k46 true) ∧ ((ltN 0 r43.1.length) = false → ((neN r44.2 0) = true → k46 (ltN 0 r44.1.length)) ∧ ((neN r44.2 0) = false → k46 false)))) ∧ ((neN r43.2.2 0) = false → ((neN r44.2 0) = true → k46 (ltN 0 r44.1.length)) ∧ ((neN r44.2 0) = false → k46 false))))))) (fun v45 => (v45 = true → K false) ∧ (v45 = false → ((eqN p2.length 0) = true → law24_lives_wp  (fun r48 => K r48)) ∧ ((eqN p2.length 0) = false → ∃ x49, p2[0]? = some x49 ∧ joinW (α := (List Nat)) (fun k54 => loopW (S := ((List Nat) × Nat)) (fun (v56, v57) nx59 => ((ltN v57 p2.length) = true → (v56.length + ([2] : (List Nat)).length) * 1 ≤ 2 ^ 47 ∧ v57 + 1 < 2 ^ 63 ∧ nx59 ((v56 ++ ([2] : (List Nat))), (v57 + 1))) ∧ ((ltN v57 p2.length) = false → k54 v56)) (([] : List Nat), 1)) (fun v52 => logic_Fanin_wp x49 (fun r62 => joinW (α := Bool) (fun k65 => ((eqN x49 1) = true → ((!ltN v52.length r62.1) = true → k65 (!ltI r62.2 (Int.ofNat v52.length))) ∧ ((!ltN v52.length r62.1) = false → k65 false)) ∧ ((eqN x49 1) = false → ((eqN x49 2) = true → ((!ltN v52.length r62.1) = true → k65 (!ltI r62.2 (Int.ofNat v52.length))) ∧ ((!ltN v52.length r62.1) = false → k65 false)) ∧ ((eqN x49 2) = false → ((!ltN x49 3) = true → ((!ltN 11 x49) = true → ((!ltN v52.length r62.1) = true → k65 (!ltI r62.2 (Int.ofNat v52.length))) ∧ ((!ltN v52.length r62.1) = false → k65 false)) ∧ ((!ltN 11 x49) = false → k65 false)) ∧ ((!ltN x49 3) = false → k65 false)))) (fun v63 => implies_Gate_wp x49 2 v52 (fun r66 => ((r66.2.2 == v63) = true → (r66.2.2 = true → law24_lives_wp  (fun r67 => K r67)) ∧ (r66.2.2 = false → ((eqN r66.1 0) = true → ((eqN r66.2.1.length 0) = true → law24_lives_wp  (fun r68 => K r68)) ∧ ((eqN r66.2.1.length 0) = false → K false)) ∧ ((eqN r66.1 0) = false → K false))) ∧ ((r66.2.2 == v63) = false → K false))))))))))))))))))
theorem probecardlaw24_ImpliesErrors_walk {p0 : CData} {p1 : Int} {p2 : (List Nat)} {K : Bool → Prop} (hm : probecardlaw24_ImpliesErrors_wp p0 p1 p2 K) {h0 : Heap} (hB : HasB vars h0) : ∃ r, K r ∧ CallD Tryd.prog NG 3 ⟨[encC p0, z64 p1, (encL 1 n8) p2]⟩ h0 (Value.bool r) h0 := by
  unfold probecardlaw24_ImpliesErrors_wp at hm
  refine fnW hM Tryd.func3 rfl (hP _ _ rfl Tryd.func3) (Nat.le_of_ble_eq_true rfl) hB (enc := Value.bool) (fun r => PureV.flat rfl) fun O => ?_; conv=>whnf
  apply Cs;((conv=>whnf);repeat (first|apply Cs|apply Hs|apply Hx);conv=>whnf)
  refine NewG.frz rfl ?_; ((conv=>whnf);repeat (first|apply Cs|apply Hs|apply Hx);conv=>whnf)
  refine lenM (s := 1) (enc := n8) (l := p2) rfl rfl ?_; ((conv=>whnf);repeat (first|apply Cs|apply Hs|apply Hx);conv=>whnf)
  refine ⟨_, rfl, fun hc => ?_, fun hc => ?_⟩
  ·replace hm := hm.1 hc
   apply Cs;((conv=>whnf);repeat (first|apply Cs|apply Hs|apply Hx);conv=>whnf)
   obtain ⟨r1, hm, hcall⟩ := law24_lives_walk hm O.has
   refine ⟨_, _, hcall, ?_⟩; ((conv=>whnf);repeat (first|apply Cs|apply Hs|apply Hx);conv=>whnf)
   exact ⟨r1, hm, O.ext, fun h2 F => VLe.refl _ _⟩
  ·replace hm := hm.2 hc
   apply Cs;((conv=>whnf);repeat (first|apply Cs|apply Hs|apply Hx);conv=>whnf)
   refine ⟨_, (rfl : aread _ _ _ _ = some _), ?_⟩; ((conv=>whnf);repeat (first|apply Hs|apply Hx);conv=>whnf)
   obtain ⟨r2, hm, hcall⟩ := law03_Of_walk hm O.has
   refine ⟨_, _, hcall, ?_⟩; ((conv=>whnf);repeat (first|apply Hs|apply Hx);conv=>whnf)
   refine O.new (anew_alloc (l := [(.slice none 0 0), (.slice none 0 0), (.slice none 0 0), (.slice none 0 0)]) rfl rfl rfl) fun g3 h O => ?_; ((conv=>whnf);repeat (first|apply Hs|apply Hx);conv=>whnf)
   refine O.store (n := 4) (cs' := [((encL 4 encNode) r2.nodes), ((encL 1 Value.string) r2.names), ((encL 3 encMem) r2.mems), ((encL 1 i64) r2.outs)]) (.head _) rfl rfl rfl rfl (Nat.le_of_ble_eq_true rfl) rfl rfl fun h O => ?_; ((conv=>whnf);repeat (first|apply Cs|apply Hs|apply Hx);conv=>whnf)
   refine ⟨_, loadAggK rfl (O.at (.head _)) rfl rfl (Nat.le_of_ble_eq_true rfl) rfl, ?_⟩; ((conv=>whnf);repeat (first|apply Hs|apply Hx);conv=>whnf)
   obtain ⟨r5, hm, hcall⟩ := netlists_Check_walk hm O.has
   refine ⟨_, _, hcall, ?_⟩; ((conv=>whnf);repeat (first|apply Hs|apply Hx);conv=>whnf)
   refine CodeS.joinWS hm (nn := 247) (σ := Nat × Unit) (fun s => s.1) (fun (v6, _) h => Own vars h0 [((some g3), .cells [((encL 4 encNode) r2.nodes), ((encL 1 Value.string) r2.names), ((encL 3 encMem) r2.mems), ((encL 1 i64) r2.outs)] false)] h ∧ True) (fun (v6, _) => [(1, (z64 p1)), (2, ((encL 1 n8) p2)), (7, (.pointer (some ⟨g3, 0, none⟩))), (8, (i64 v6))]) rfl (fun hm' => ?_) ?_
   ·replace hm := hm'
    refine CodeS.joinWS hm (nn := 247) (σ := Bool × Unit) (fun s => s.1) (fun (v8, _) h => Own vars h0 [((some g3), .cells [((encL 4 encNode) r2.nodes), ((encL 1 Value.string) r2.names), ((encL 3 encMem) r2.mems), ((encL 1 i64) r2.outs)] false)] h ∧ True) (fun (v8, _) => [(1, (z64 p1)), (2, ((encL 1 n8) p2)), (7, (.pointer (some ⟨g3, 0, none⟩))), (8, (i64 r5)), (49, (.bool v8))]) rfl (fun hm' => ?_) ?_
    ·replace hm := hm'
     apply Cs;((conv=>whnf);repeat (first|apply Cs|apply Hs|apply Hx);conv=>whnf)
     refine ⟨_, rfl, fun hc => ?_, fun hc => ?_⟩
     ·replace hm := hm.1 hc; ((conv=>whnf);repeat (first|apply Hs|apply Hx);conv=>whnf)
      refine ⟨_, loadK rfl (O.at (.head _)) rfl rfl, ?_⟩; ((conv=>whnf);repeat (first|apply Hs|apply Hx);conv=>whnf)
      refine lenM (s := 3) (enc := encMem) (l := r2.mems) rfl rfl ?_; ((conv=>whnf);repeat (first|apply Hs|apply Hx);conv=>whnf)
      refine ⟨_, rfl, fun hc => ?_, fun hc => ?_⟩
      ·replace hm := hm.1 hc; ((conv=>whnf);repeat (first|apply Hs|apply Hx);conv=>whnf)
       exact ⟨(true, ()), hm, ⟨O, trivial⟩, VLe.refl _ _, VLe.refl _ _, VLe.refl _ _, VLe.refl _ _, VLe.refl _ _, trivial⟩
      ·replace hm := hm.2 hc; ((conv=>whnf);repeat (first|apply Hs|apply Hx);conv=>whnf)
       refine ⟨_, loadAggK rfl (O.at (.head _)) rfl rfl (Nat.le_of_ble_eq_true rfl) rfl, ?_⟩; ((conv=>whnf);repeat (first|apply Hs|apply Hx);conv=>whnf)
       refine NewG.frz rfl ?_; ((conv=>whnf);repeat (first|apply Hs|apply Hx);conv=>whnf)
       obtain ⟨r10, hm, hcall⟩ := netlists_Of_walk hm O.has
       refine ⟨_, _, hcall, ?_⟩; ((conv=>whnf);repeat (first|apply Hs|apply Hx);conv=>whnf)
       refine lenM (s := 1) (enc := i64) (l := r10) rfl rfl ?_; ((conv=>whnf);repeat (first|apply Hs|apply Hx);conv=>whnf)
       exact ⟨((ltN 0 r10.length), ()), hm, ⟨O, trivial⟩, VLe.refl _ _, VLe.refl _ _, VLe.refl _ _, VLe.refl _ _, VLe.refl _ _, trivial⟩
     ·replace hm := hm.2 hc; ((conv=>whnf);repeat (first|apply Hs|apply Hx);conv=>whnf)
      exact ⟨(false, ()), hm, ⟨O, trivial⟩, VLe.refl _ _, VLe.refl _ _, VLe.refl _ _, VLe.refl _ _, VLe.refl _ _, trivial⟩
    ·clear hm; rintro ⟨v8, _⟩ base h hm ⟨O, _⟩
     ((conv=>whnf);repeat (first|apply Cs|apply Hs|apply Hx);conv=>whnf)
     refine ⟨_, rfl, fun hc => ?_, fun hc => ?_⟩
     ·replace hm := hm.1 hc
      apply Cs;((conv=>whnf);repeat (first|apply Cs|apply Hs|apply Hx);conv=>whnf)
      exact ⟨(7, ()), hm, ⟨O, trivial⟩, VLe.refl _ _, VLe.refl _ _, VLe.refl _ _, VLe.refl _ _, trivial⟩
     ·replace hm := hm.2 hc
      apply Cs;((conv=>whnf);repeat (first|apply Cs|apply Hs|apply Hx);conv=>whnf)
      exact ⟨(r5, ()), hm, ⟨O, trivial⟩, VLe.refl _ _, VLe.refl _ _, VLe.refl _ _, VLe.refl _ _, trivial⟩
   ·clear hm; rintro ⟨v6, _⟩ base h hm ⟨O, _⟩
    conv=>whnf
    apply Cs;conv=>whnf
    apply Cs;((conv=>whnf);repeat (first|apply Hs|apply Hx);conv=>whnf)
    refine CodeS.joinWS hm (nn := 247) (σ := Nat × Unit) (fun s => s.1) (fun (v11, _) h => Own vars h0 [((some g3), .cells [((encL 4 encNode) r2.nodes), ((encL 1 Value.string) r2.names), ((encL 3 encMem) r2.mems), ((encL 1 i64) r2.outs)] false)] h ∧ True) (fun (v11, _) => [(1, (z64 p1)), (2, ((encL 1 n8) p2)), (7, (.pointer (some ⟨g3, 0, none⟩))), (8, (i64 v6)), (9, (n8 v11))]) rfl (fun hm' => ?_) ?_
    ·replace hm := hm'
     apply Cs;((conv=>whnf);repeat (first|apply Cs|apply Hs|apply Hx);conv=>whnf)
     refine lenM (s := 1) (enc := n8) (l := p2) rfl rfl ?_; ((conv=>whnf);repeat (first|apply Cs|apply Hs|apply Hx);conv=>whnf)
     refine ⟨_, rfl, fun hc => ?_, fun hc => ?_⟩
     ·replace hm := hm.1 hc
      apply Cs;((conv=>whnf);repeat (first|apply Cs|apply Hs|apply Hx);conv=>whnf)
      obtain ⟨x13, hx13, hm⟩ := hm
      refine flAtM (s := 1) (enc := n8) (j := 0) rfl rfl rfl rfl hx13 ?_; ((conv=>whnf);repeat (first|apply Hs|apply Hx);conv=>whnf)
      refine ⟨_, (rfl : aread _ _ _ _ = some _), ?_⟩; ((conv=>whnf);repeat (first|apply Hs|apply Hx);conv=>whnf)
      exact ⟨(x13, ()), hm, ⟨O, trivial⟩, VLe.refl _ _, VLe.refl _ _, VLe.refl _ _, VLe.refl _ _, VLe.refl _ _, trivial⟩
     ·replace hm := hm.2 hc
      apply Cs;((conv=>whnf);repeat (first|apply Cs|apply Hs|apply Hx);conv=>whnf)
      exact ⟨(2, ()), hm, ⟨O, trivial⟩, VLe.refl _ _, VLe.refl _ _, VLe.refl _ _, VLe.refl _ _, VLe.refl _ _, trivial⟩
    ·clear hm; rintro ⟨v11, _⟩ base h hm ⟨O, _⟩
     conv=>whnf
     apply Cs;conv=>whnf
     apply Cs;((conv=>whnf);repeat (first|apply Hs|apply Hx);conv=>whnf)
     refine CodeS.joinWS hm (nn := 247) (σ := Nat × Unit) (fun s => s.1) (fun (v14, _) h => Own vars h0 [((some g3), .cells [((encL 4 encNode) r2.nodes), ((encL 1 Value.string) r2.names), ((encL 3 encMem) r2.mems), ((encL 1 i64) r2.outs)] false)] h ∧ True) (fun (v14, _) => [(1, (z64 p1)), (2, ((encL 1 n8) p2)), (7, (.pointer (some ⟨g3, 0, none⟩))), (8, (i64 v6)), (9, (n8 v11)), (10, (i64 v14))]) rfl (fun hm' => ?_) ?_
     ·replace hm := hm'
      refine CodeS.joinWS hm (nn := 247) (σ := Bool × Unit) (fun s => s.1) (fun (v16, _) h => Own vars h0 [((some g3), .cells [((encL 4 encNode) r2.nodes), ((encL 1 Value.string) r2.names), ((encL 3 encMem) r2.mems), ((encL 1 i64) r2.outs)] false)] h ∧ True) (fun (v16, _) => [(1, (z64 p1)), (2, ((encL 1 n8) p2)), (7, (.pointer (some ⟨g3, 0, none⟩))), (8, (i64 v6)), (9, (n8 v11)), (10, (i64 v6)), (73, (.bool v16))]) rfl (fun hm' => ?_) ?_
      ·replace hm := hm'
       apply Cs;((conv=>whnf);repeat (first|apply Cs|apply Hs|apply Hx);conv=>whnf)
       refine ⟨_, rfl, fun hc => ?_, fun hc => ?_⟩
       ·replace hm := hm.1 hc; ((conv=>whnf);repeat (first|apply Hs|apply Hx);conv=>whnf)
        refine ⟨_, rfl, fun hc => ?_, fun hc => ?_⟩
        ·replace hm := hm.1 hc; ((conv=>whnf);repeat (first|apply Hs|apply Hx);conv=>whnf)
         refine ⟨true, rfl, fun _ => ?_, (fun hc => nomatch hc)⟩; ((conv=>whnf);repeat (first|apply Hs|apply Hx);conv=>whnf)
         exact ⟨(true, ()), hm, ⟨O, trivial⟩, VLe.refl _ _, VLe.refl _ _, VLe.refl _ _, VLe.refl _ _, VLe.refl _ _, VLe.refl _ _, VLe.refl _ _, trivial⟩
        ·replace hm := hm.2 hc; ((conv=>whnf);repeat (first|apply Hs|apply Hx);conv=>whnf)
         refine ⟨_, loadK rfl (O.at (.head _)) rfl rfl, ?_⟩; ((conv=>whnf);repeat (first|apply Hs|apply Hx);conv=>whnf)
         refine lenM (s := 4) (enc := encNode) (l := r2.nodes) rfl rfl ?_; ((conv=>whnf);repeat (first|apply Hs|apply Hx);conv=>whnf)
         refine ⟨_, rfl, fun hc => ?_, fun hc => ?_⟩
         ·replace hm := hm.1 hc; ((conv=>whnf);repeat (first|apply Hs|apply Hx);conv=>whnf)
          exact ⟨(true, ()), hm, ⟨O, trivial⟩, VLe.refl _ _, VLe.refl _ _, VLe.refl _ _, VLe.refl _ _, VLe.refl _ _, VLe.refl _ _, VLe.refl _ _, trivial⟩
         ·replace hm := hm.2 hc; ((conv=>whnf);repeat (first|apply Hs|apply Hx);conv=>whnf)
          exact ⟨((ltN 1 v11), ()), hm, ⟨O, trivial⟩, VLe.refl _ _, VLe.refl _ _, VLe.refl _ _, VLe.refl _ _, VLe.refl _ _, VLe.refl _ _, VLe.refl _ _, trivial⟩
       ·replace hm := hm.2 hc; ((conv=>whnf);repeat (first|apply Hs|apply Hx);conv=>whnf)
        exact ⟨(false, ()), hm, ⟨O, trivial⟩, VLe.refl _ _, VLe.refl _ _, VLe.refl _ _, VLe.refl _ _, VLe.refl _ _, VLe.refl _ _, VLe.refl _ _, trivial⟩
      ·clear hm; rintro ⟨v16, _⟩ base h hm ⟨O, _⟩
       ((conv=>whnf);repeat (first|apply Cs|apply Hs|apply Hx);conv=>whnf)
       refine ⟨_, rfl, fun hc => ?_, fun hc => ?_⟩
       ·replace hm := hm.1 hc
        apply Cs;((conv=>whnf);repeat (first|apply Cs|apply Hs|apply Hx);conv=>whnf)
        exact ⟨(1, ()), hm, ⟨O, trivial⟩, VLe.refl _ _, VLe.refl _ _, VLe.refl _ _, VLe.refl _ _, VLe.refl _ _, VLe.refl _ _, trivial⟩
       ·replace hm := hm.2 hc
        apply Cs;((conv=>whnf);repeat (first|apply Cs|apply Hs|apply Hx);conv=>whnf)
        exact ⟨(v6, ()), hm, ⟨O, trivial⟩, VLe.refl _ _, VLe.refl _ _, VLe.refl _ _, VLe.refl _ _, VLe.refl _ _, VLe.refl _ _, trivial⟩
     ·clear hm; rintro ⟨v14, _⟩ base h hm ⟨O, _⟩
      ((conv=>whnf);repeat (first|apply Cs|apply Hs|apply Hx);conv=>whnf)
      refine ⟨_, loadK rfl (O.at (.head _)) rfl rfl, ?_⟩; ((conv=>whnf);repeat (first|apply Hs|apply Hx);conv=>whnf)
      refine lenM (s := 4) (enc := encNode) (l := r2.nodes) rfl rfl ?_; ((conv=>whnf);repeat (first|apply Hs|apply Hx);conv=>whnf)
      refine O.makeL (enc := n8) (z := 0) (b := 1) (s := 1) (n := r2.nodes.length) rfl rfl rfl rfl rfl (by decide) (by kernel_rfl) rfl rfl hm.1 hm.2.1 fun g18 h O => ?_; ((conv=>whnf);repeat (first|apply Hs|apply Hx);conv=>whnf)
      replace hm := hm.2.2
      apply Cs;conv=>whnf
      apply Cs;((conv=>whnf);repeat (first|apply Hs|apply Hx);conv=>whnf)
      refine CodeS.joinWS hm (nn := 247) (σ := ((List Nat) × Nat) × (Nat × Bool)) (fun s => s.1) (fun ((v22, v23), (a20, a21)) h => Own vars h0 [((some g3), .cells [((encL 4 encNode) r2.nodes), ((encL 1 Value.string) r2.names), ((encL 3 encMem) r2.mems), ((encL 1 i64) r2.outs)] false), ((some a20), .cells (flatC (v22.map n8)) false)] h ∧ True) (fun ((v22, v23), (a20, a21)) => [(1, (z64 p1)), (2, ((encL 1 n8) p2)), (7, (.pointer (some ⟨g3, 0, none⟩))), (8, (i64 v6)), (9, (n8 v11)), (10, (i64 v14)), (11, (growS 1 a21 a20 ((v22.map n8).length))), (12, (i64 v23))]) rfl (fun hm' => ?_) ?_
      ·replace hm := hm'
       refine CodeS.joinWS hm (nn := 247) (σ := Bool × Unit) (fun s => s.1) (fun (v25, _) h => Own vars h0 [((some g3), .cells [((encL 4 encNode) r2.nodes), ((encL 1 Value.string) r2.names), ((encL 3 encMem) r2.mems), ((encL 1 i64) r2.outs)] false), ((some g18), .cells (flatC ((List.replicate r2.nodes.length (0 : Nat)).map n8)) false)] h ∧ True) (fun (v25, _) => [(1, (z64 p1)), (2, ((encL 1 n8) p2)), (7, (.pointer (some ⟨g3, 0, none⟩))), (8, (i64 v6)), (9, (n8 v11)), (10, (i64 v14)), (11, (growS 1 false g18 (((List.replicate r2.nodes.length (0 : Nat)).map n8).length))), (12, (i64 v6)), (88, (.bool v25))]) rfl (fun hm' => ?_) ?_
       ·replace hm := hm'
        apply Cs;((conv=>whnf);repeat (first|apply Cs|apply Hs|apply Hx);conv=>whnf)
        refine lenM (s := 1) (enc := n8) (l := p2) rfl rfl ?_; ((conv=>whnf);repeat (first|apply Hs|apply Hx);conv=>whnf)
        refine ⟨_, rfl, fun hc => ?_, fun hc => ?_⟩
        ·replace hm := hm.1 hc; ((conv=>whnf);repeat (first|apply Hs|apply Hx);conv=>whnf)
         obtain ⟨x27, hx27, hm⟩ := hm
         refine flAtM (s := 1) (enc := n8) (j := 1) rfl rfl rfl rfl hx27 ?_; ((conv=>whnf);repeat (first|apply Hs|apply Hx);conv=>whnf)
         refine ⟨_, (rfl : aread _ _ _ _ = some _), ?_⟩; ((conv=>whnf);repeat (first|apply Hs|apply Hx);conv=>whnf)
         refine ⟨_, remK (a := x27) (b := 2) rfl rfl hm.1, ?_⟩; ((conv=>whnf);repeat (first|apply Hs|apply Hx);conv=>whnf)
         replace hm := hm.2
         exact ⟨((eqN (x27 % 2) 1), ()), hm, ⟨(O.sel [1, 0] (by decide)), trivial⟩, VLe.refl _ _, VLe.refl _ _, VLe.refl _ _, VLe.refl _ _, VLe.refl _ _, VLe.refl _ _, VLe.growLenS rfl repGS, VLe.refl _ _, VLe.refl _ _, trivial⟩
        ·replace hm := hm.2 hc; ((conv=>whnf);repeat (first|apply Hs|apply Hx);conv=>whnf)
         exact ⟨(false, ()), hm, ⟨(O.sel [1, 0] (by decide)), trivial⟩, VLe.refl _ _, VLe.refl _ _, VLe.refl _ _, VLe.refl _ _, VLe.refl _ _, VLe.refl _ _, VLe.growLenS rfl repGS, VLe.refl _ _, VLe.refl _ _, trivial⟩
       ·clear hm; rintro ⟨v25, _⟩ base h hm ⟨O, _⟩
        ((conv=>whnf);repeat (first|apply Cs|apply Hs|apply Hx);conv=>whnf)
        refine ⟨_, rfl, fun hc => ?_, fun hc => ?_⟩
        ·replace hm := hm.1 hc
         apply Cs;((conv=>whnf);repeat (first|apply Cs|apply Hs|apply Hx);conv=>whnf)
         refine NewG.frz rfl ?_; ((conv=>whnf);repeat (first|apply Hs|apply Hx);conv=>whnf)
         refine O.appendS (enc := n8) (l := (List.replicate r2.nodes.length (0 : Nat))) (new := ([0] : (List Nat))) (s := 1) (b := 1) (.tail _ (.head _)) rfl rfl rfl rfl rfl rfl rfl rfl rfl (YOk.fl rfl) (fun _ => rfl) (fun _ => rfl) (by decide) hm.1 fun g30 a31 h O => ?_; ((conv=>whnf);repeat (first|apply Cs|apply Hs|apply Hx);conv=>whnf)
         replace hm := hm.2
         refine ⟨_, rfl, fun hc => ?_, fun hc => ?_⟩
         ·replace hm := hm.1 hc
          apply Cs;((conv=>whnf);repeat (first|apply Cs|apply Hs|apply Hx);conv=>whnf)
          exact ⟨((((List.replicate r2.nodes.length (0 : Nat)) ++ ([0] : (List Nat))), 8), (g30, a31)), hm, ⟨O, trivial⟩, VLe.refl _ _, VLe.refl _ _, VLe.refl _ _, VLe.refl _ _, VLe.refl _ _, VLe.refl _ _, VLe.refl _ _, VLe.refl _ _, trivial⟩
         ·replace hm := hm.2 hc
          apply Cs;((conv=>whnf);repeat (first|apply Cs|apply Hs|apply Hx);conv=>whnf)
          exact ⟨((((List.replicate r2.nodes.length (0 : Nat)) ++ ([0] : (List Nat))), v6), (g30, a31)), hm, ⟨O, trivial⟩, VLe.refl _ _, VLe.refl _ _, VLe.refl _ _, VLe.refl _ _, VLe.refl _ _, VLe.refl _ _, VLe.refl _ _, VLe.refl _ _, trivial⟩
        ·replace hm := hm.2 hc
         apply Cs;((conv=>whnf);repeat (first|apply Cs|apply Hs|apply Hx);conv=>whnf)
         exact ⟨(((List.replicate r2.nodes.length (0 : Nat)), v6), (g18, false)), hm, ⟨O, trivial⟩, VLe.refl _ _, VLe.refl _ _, VLe.refl _ _, VLe.refl _ _, VLe.refl _ _, VLe.refl _ _, VLe.refl _ _, VLe.refl _ _, trivial⟩
      ·clear hm; rintro ⟨⟨v22, v23⟩, ⟨a20, a21⟩⟩ base h hm ⟨O, _⟩
       conv=>whnf
       refine CodeS.joinWS hm (nn := 247) (σ := ((List Nat) × Nat) × Unit) (fun s => s.1) (fun ((v32, v33), _) h => Own vars h0 [((some g3), .cells [((encL 4 encNode) r2.nodes), ((encL 1 Value.string) r2.names), ((encL 3 encMem) r2.mems), ((encL 1 i64) r2.outs)] false), ((some a20), .cells (flatC (v32.map n8)) false)] h ∧ True) (fun ((v32, v33), _) => [(1, (z64 p1)), (2, ((encL 1 n8) p2)), (7, (.pointer (some ⟨g3, 0, none⟩))), (8, (i64 v6)), (9, (n8 v11)), (10, (i64 v14)), (11, (growS 1 a21 a20 ((v32.map n8).length))), (12, (i64 v33))]) rfl (fun hm' => ?_) ?_
       ·replace hm := hm'
        refine CodeS.joinWS hm (nn := 247) (σ := Bool × Unit) (fun s => s.1) (fun (v35, _) h => Own vars h0 [((some g3), .cells [((encL 4 encNode) r2.nodes), ((encL 1 Value.string) r2.names), ((encL 3 encMem) r2.mems), ((encL 1 i64) r2.outs)] false), ((some a20), .cells (flatC (v22.map n8)) false)] h ∧ True) (fun (v35, _) => [(1, (z64 p1)), (2, ((encL 1 n8) p2)), (7, (.pointer (some ⟨g3, 0, none⟩))), (8, (i64 v6)), (9, (n8 v11)), (10, (i64 v14)), (11, (growS 1 a21 a20 ((v22.map n8).length))), (12, (i64 v23)), (101, (.bool v35))]) rfl (fun hm' => ?_) ?_
        ·replace hm := hm'
         apply Cs;((conv=>whnf);repeat (first|apply Cs|apply Hs|apply Hx);conv=>whnf)
         refine lenGS (enc := n8) (l := v22) rfl rfl rfl ?_; ((conv=>whnf);repeat (first|apply Hs|apply Hx);conv=>whnf)
         refine ⟨_, rfl, fun hc => ?_, fun hc => ?_⟩
         ·replace hm := hm.1 hc; ((conv=>whnf);repeat (first|apply Hs|apply Hx);conv=>whnf)
          refine lenM (s := 1) (enc := n8) (l := p2) rfl rfl ?_; ((conv=>whnf);repeat (first|apply Hs|apply Hx);conv=>whnf)
          exact ⟨((ltN 2 p2.length), ()), hm, ⟨O, trivial⟩, VLe.refl _ _, VLe.refl _ _, VLe.refl _ _, VLe.refl _ _, VLe.refl _ _, VLe.refl _ _, VLe.refl _ _, VLe.refl _ _, VLe.refl _ _, trivial⟩
         ·replace hm := hm.2 hc; ((conv=>whnf);repeat (first|apply Hs|apply Hx);conv=>whnf)
          exact ⟨(false, ()), hm, ⟨O, trivial⟩, VLe.refl _ _, VLe.refl _ _, VLe.refl _ _, VLe.refl _ _, VLe.refl _ _, VLe.refl _ _, VLe.refl _ _, VLe.refl _ _, VLe.refl _ _, trivial⟩
        ·clear hm; rintro ⟨v35, _⟩ base h hm ⟨O, _⟩
         ((conv=>whnf);repeat (first|apply Cs|apply Hs|apply Hx);conv=>whnf)
         refine ⟨_, rfl, fun hc => ?_, fun hc => ?_⟩
         ·replace hm := hm.1 hc
          apply Cs;((conv=>whnf);repeat (first|apply Cs|apply Hs|apply Hx);conv=>whnf)
          obtain ⟨x37, hx37, hm⟩ := hm
          refine flAtM (s := 1) (enc := n8) (j := 2) rfl rfl rfl rfl hx37 ?_; ((conv=>whnf);repeat (first|apply Hs|apply Hx);conv=>whnf)
          refine ⟨_, (rfl : aread _ _ _ _ = some _), ?_⟩; ((conv=>whnf);repeat (first|apply Hs|apply Hx);conv=>whnf)
          refine ⟨.inl rfl, ?_⟩; ((conv=>whnf);repeat (first|apply Hs|apply Hx);conv=>whnf)
          refine ⟨_, convIntK (a := Int.ofNat x37) rfl rfl rfl (wrapI64 (Nat.lt_of_lt_of_le hm.1 (by decide))), ?_⟩; ((conv=>whnf);repeat (first|apply Hs|apply Hx);conv=>whnf)
          refine ⟨.inl rfl, ?_⟩; ((conv=>whnf);repeat (first|apply Hs|apply Hx);conv=>whnf)
          replace hm := hm.2
          refine lenGS (enc := n8) (l := v22) rfl rfl rfl ?_; ((conv=>whnf);repeat (first|apply Hs|apply Hx);conv=>whnf)
          refine ⟨_, remK (a := x37) (b := v22.length) rfl rfl hm.1, ?_⟩; ((conv=>whnf);repeat (first|apply Hs|apply Hx);conv=>whnf)
          replace hm := hm.2
          obtain ⟨x38, hx38, hm⟩ := hm
          refine flAtM (s := 1) (enc := n8) (j := 2) rfl rfl rfl rfl hx38 ?_; ((conv=>whnf);repeat (first|apply Hs|apply Hx);conv=>whnf)
          refine ⟨_, (rfl : aread _ _ _ _ = some _), ?_⟩; ((conv=>whnf);repeat (first|apply Hs|apply Hx);conv=>whnf)
          refine ⟨.inl rfl, ?_⟩; ((conv=>whnf);repeat (first|apply Hs|apply Hx);conv=>whnf)
          refine ⟨_, remK (a := x38) (b := 5) rfl rfl hm.1, ?_⟩; ((conv=>whnf);repeat (first|apply Hs|apply Hx);conv=>whnf)
          replace hm := hm.2
          obtain ⟨x39, hx39, hm⟩ := hm
          refine indexK (s := 1) (j := (x37 % v22.length)) rfl rfl rfl rfl (ltGS rfl hx39) ?_; ((conv=>whnf);repeat (first|apply Hs|apply Hx);conv=>whnf)
          refine O.store (n := 1) (.tail _ (.head _)) rfl rfl rfl rfl (el_le (enc := n8) (s := 1) (k := 0) (n := 1) (fun _ => rfl) (lt_of_get hx39) (Nat.le_of_ble_eq_true rfl)) rfl (splice_all (enc := n8) (s := 1) (fun _ => rfl) (lt_of_get hx39) (x := (x38 % 5)) rfl) fun h O => ?_; ((conv=>whnf);repeat (first|apply Hs|apply Hx);conv=>whnf)
          refine ⟨.inl rfl, ?_⟩; ((conv=>whnf);repeat (first|apply Hs|apply Hx);conv=>whnf)
          refine CodeS.joinWS hm (nn := 247) (σ := Bool × Unit) (fun s => s.1) (fun (v40, _) h => Own vars h0 [((some g3), .cells [((encL 4 encNode) r2.nodes), ((encL 1 Value.string) r2.names), ((encL 3 encMem) r2.mems), ((encL 1 i64) r2.outs)] false), ((some a20), .cells (flatC ((v22.set (x37 % v22.length) (x38 % 5)).map n8)) false)] h ∧ True) (fun (v40, _) => [(1, (z64 p1)), (2, ((encL 1 n8) p2)), (7, (.pointer (some ⟨g3, 0, none⟩))), (8, (i64 v6)), (9, (n8 v11)), (10, (i64 v14)), (11, (growS 1 a21 a20 (((v22.set (x37 % v22.length) (x38 % 5)).map n8).length))), (12, (i64 v23)), (123, (.bool v40))]) rfl (fun hm' => ?_) ?_
          ·replace hm := hm'
           apply Cs;((conv=>whnf);repeat (first|apply Cs|apply Hs|apply Hx);conv=>whnf)
           refine ⟨_, rfl, fun hc => ?_, fun hc => ?_⟩
           ·replace hm := hm.1 hc; ((conv=>whnf);repeat (first|apply Hs|apply Hx);conv=>whnf)
            obtain ⟨x42, hx42, hm⟩ := hm
            refine flAtM (s := 1) (enc := n8) (j := 2) rfl rfl rfl rfl hx42 ?_; ((conv=>whnf);repeat (first|apply Hs|apply Hx);conv=>whnf)
            refine ⟨_, (rfl : aread _ _ _ _ = some _), ?_⟩; ((conv=>whnf);repeat (first|apply Hs|apply Hx);conv=>whnf)
            refine ⟨_, remK (a := x42) (b := 5) rfl rfl hm.1, ?_⟩; ((conv=>whnf);repeat (first|apply Hs|apply Hx);conv=>whnf)
            replace hm := hm.2
            exact ⟨((ltN 2 (x42 % 5)), ()), hm, ⟨O, trivial⟩, VLe.refl _ _, VLe.refl _ _, VLe.refl _ _, VLe.refl _ _, VLe.refl _ _, VLe.refl _ _, VLe.growLenS rfl (setGS rfl), VLe.refl _ _, VLe.refl _ _, trivial⟩
           ·replace hm := hm.2 hc; ((conv=>whnf);repeat (first|apply Hs|apply Hx);conv=>whnf)
            exact ⟨(false, ()), hm, ⟨O, trivial⟩, VLe.refl _ _, VLe.refl _ _, VLe.refl _ _, VLe.refl _ _, VLe.refl _ _, VLe.refl _ _, VLe.growLenS rfl (setGS rfl), VLe.refl _ _, VLe.refl _ _, trivial⟩
          ·clear hm; rintro ⟨v40, _⟩ base h hm ⟨O, _⟩
           ((conv=>whnf);repeat (first|apply Cs|apply Hs|apply Hx);conv=>whnf)
           refine ⟨_, rfl, fun hc => ?_, fun hc => ?_⟩
           ·replace hm := hm.1 hc
            apply Cs;((conv=>whnf);repeat (first|apply Cs|apply Hs|apply Hx);conv=>whnf)
            exact ⟨(((v22.set (x37 % v22.length) (x38 % 5)), 1), ()), hm, ⟨O, trivial⟩, VLe.refl _ _, VLe.refl _ _, VLe.refl _ _, VLe.refl _ _, VLe.refl _ _, VLe.refl _ _, VLe.refl _ _, VLe.refl _ _, trivial⟩
           ·replace hm := hm.2 hc
            apply Cs;((conv=>whnf);repeat (first|apply Cs|apply Hs|apply Hx);conv=>whnf)
            exact ⟨(((v22.set (x37 % v22.length) (x38 % 5)), v23), ()), hm, ⟨O, trivial⟩, VLe.refl _ _, VLe.refl _ _, VLe.refl _ _, VLe.refl _ _, VLe.refl _ _, VLe.refl _ _, VLe.refl _ _, VLe.refl _ _, trivial⟩
         ·replace hm := hm.2 hc
          apply Cs;((conv=>whnf);repeat (first|apply Cs|apply Hs|apply Hx);conv=>whnf)
          exact ⟨((v22, v23), ()), hm, ⟨O, trivial⟩, VLe.refl _ _, VLe.refl _ _, VLe.refl _ _, VLe.refl _ _, VLe.refl _ _, VLe.refl _ _, VLe.refl _ _, VLe.refl _ _, trivial⟩
       ·clear hm; rintro ⟨⟨v32, v33⟩, _⟩ base h hm ⟨O, _⟩
        ((conv=>whnf);repeat (first|apply Cs|apply Hs|apply Hx);conv=>whnf)
        refine ⟨_, loadAggK rfl (O.at (.head _)) rfl rfl (Nat.le_of_ble_eq_true rfl) rfl, ?_⟩; ((conv=>whnf);repeat (first|apply Hs|apply Hx);conv=>whnf)
        refine NewG.frz rfl ?_; ((conv=>whnf);repeat (first|apply Hs|apply Hx);conv=>whnf)
        obtain ⟨r43, hm, hcall⟩ := implies_CloseZ_walk hm O.has
        refine ⟨_, _, hcall, ?_⟩; ((conv=>whnf);repeat (first|apply Cs|apply Hs|apply Hx);conv=>whnf)
        refine ⟨_, loadAggK rfl (O.at (.head _)) rfl rfl (Nat.le_of_ble_eq_true rfl) rfl, ?_⟩; ((conv=>whnf);repeat (first|apply Hs|apply Hx);conv=>whnf)
        refine O.useL (fun _ hb => implies_Unjustified_walk hm hb) (.tail _ (.head _)) ((rfl : _ = _).trans (List.length_map ..)) (fun _ => rfl) (i := 1) rfl (by kernel_rfl) (fun h2 q => (LLe.cons (VLe.refl _ _) (LLe.cons (q) (LLe.nil _)))) (fun r44 h hm' O => ?_); replace hm := hm'; ((conv=>whnf);repeat (first|apply Hs|apply Hx);conv=>whnf)
        apply Cs;conv=>whnf
        refine CodeS.joinWS hm (nn := 247) (σ := Bool × Unit) (fun s => s.1) (fun (v45, _) h => Own vars h0 [] h ∧ True) (fun (v45, _) => [(2, ((encL 1 n8) p2)), (174, (.bool v45))]) rfl (fun hm' => ?_) ?_
        ·replace hm := hm'
         apply Cs;((conv=>whnf);repeat (first|apply Cs|apply Hs|apply Hx);conv=>whnf)
         refine ⟨_, loadAggK rfl (O.at (.head _)) rfl rfl (Nat.le_of_ble_eq_true rfl) rfl, ?_⟩; ((conv=>whnf);repeat (first|apply Hs|apply Hx);conv=>whnf)
         obtain ⟨r47, hm, hcall⟩ := implies_Plain_walk hm O.has
         refine ⟨_, _, hcall, ?_⟩; ((conv=>whnf);repeat (first|apply Hs|apply Hx);conv=>whnf)
         refine ⟨_, rfl, fun hc => ?_, fun hc => ?_⟩
         ·replace hm := hm.1 hc; ((conv=>whnf);repeat (first|apply Hs|apply Hx);conv=>whnf)
          refine ⟨true, rfl, fun _ => ?_, (fun hc => nomatch hc)⟩; ((conv=>whnf);repeat (first|apply Hs|apply Hx);conv=>whnf)
          refine ⟨true, rfl, fun _ => ?_, (fun hc => nomatch hc)⟩; ((conv=>whnf);repeat (first|apply Hs|apply Hx);conv=>whnf)
          refine ⟨true, rfl, fun _ => ?_, (fun hc => nomatch hc)⟩; ((conv=>whnf);repeat (first|apply Hs|apply Hx);conv=>whnf)
          exact ⟨(true, ()), hm, ⟨(O.sel [] (by decide)), trivial⟩, VLe.refl _ _, VLe.refl _ _, trivial⟩
         ·replace hm := hm.2 hc; ((conv=>whnf);repeat (first|apply Hs|apply Hx);conv=>whnf)
          refine ⟨_, rfl, fun hc => ?_, fun hc => ?_⟩
          ·replace hm := hm.1 hc; ((conv=>whnf);repeat (first|apply Hs|apply Hx);conv=>whnf)
           refine ⟨true, rfl, fun _ => ?_, (fun hc => nomatch hc)⟩; ((conv=>whnf);repeat (first|apply Hs|apply Hx);conv=>whnf)
           refine ⟨true, rfl, fun _ => ?_, (fun hc => nomatch hc)⟩; ((conv=>whnf);repeat (first|apply Hs|apply Hx);conv=>whnf)
           exact ⟨(true, ()), hm, ⟨(O.sel [] (by decide)), trivial⟩, VLe.refl _ _, VLe.refl _ _, trivial⟩
          ·replace hm := hm.2 hc; ((conv=>whnf);repeat (first|apply Hs|apply Hx);conv=>whnf)
           refine ⟨_, rfl, fun hc => ?_, fun hc => ?_⟩
           ·replace hm := hm.1 hc; ((conv=>whnf);repeat (first|apply Hs|apply Hx);conv=>whnf)
            refine ⟨true, rfl, fun _ => ?_, (fun hc => nomatch hc)⟩; ((conv=>whnf);repeat (first|apply Hs|apply Hx);conv=>whnf)
            exact ⟨(true, ()), hm, ⟨(O.sel [] (by decide)), trivial⟩, VLe.refl _ _, VLe.refl _ _, trivial⟩
           ·replace hm := hm.2 hc; ((conv=>whnf);repeat (first|apply Hs|apply Hx);conv=>whnf)
            refine ⟨_, rfl, fun hc => ?_, fun hc => ?_⟩
            ·replace hm := hm.1 hc; ((conv=>whnf);repeat (first|apply Hs|apply Hx);conv=>whnf)
             refine ⟨_, rfl, fun hc => ?_, fun hc => ?_⟩
             ·replace hm := hm.1 hc; ((conv=>whnf);repeat (first|apply Hs|apply Hx);conv=>whnf)
              refine ⟨true, rfl, fun _ => ?_, (fun hc => nomatch hc)⟩; ((conv=>whnf);repeat (first|apply Hs|apply Hx);conv=>whnf)
              exact ⟨(true, ()), hm, ⟨(O.sel [] (by decide)), trivial⟩, VLe.refl _ _, VLe.refl _ _, trivial⟩
             ·replace hm := hm.2 hc; ((conv=>whnf);repeat (first|apply Hs|apply Hx);conv=>whnf)
              refine lenM (s := 1) (enc := n8) (l := r43.1) rfl rfl ?_; ((conv=>whnf);repeat (first|apply Hs|apply Hx);conv=>whnf)
              refine ⟨_, rfl, fun hc => ?_, fun hc => ?_⟩
              ·replace hm := hm.1 hc; ((conv=>whnf);repeat (first|apply Hs|apply Hx);conv=>whnf)
               exact ⟨(true, ()), hm, ⟨(O.sel [] (by decide)), trivial⟩, VLe.refl _ _, VLe.refl _ _, trivial⟩
              ·replace hm := hm.2 hc; ((conv=>whnf);repeat (first|apply Hs|apply Hx);conv=>whnf)
               refine ⟨_, rfl, fun hc => ?_, fun hc => ?_⟩
               ·replace hm := hm.1 hc; ((conv=>whnf);repeat (first|apply Hs|apply Hx);conv=>whnf)
                refine lenM (s := 1) (enc := i64) (l := r44.1) rfl rfl ?_; ((conv=>whnf);repeat (first|apply Hs|apply Hx);conv=>whnf)
                exact ⟨((ltN 0 r44.1.length), ()), hm, ⟨(O.sel [] (by decide)), trivial⟩, VLe.refl _ _, VLe.refl _ _, trivial⟩
               ·replace hm := hm.2 hc; ((conv=>whnf);repeat (first|apply Hs|apply Hx);conv=>whnf)
                exact ⟨(false, ()), hm, ⟨(O.sel [] (by decide)), trivial⟩, VLe.refl _ _, VLe.refl _ _, trivial⟩
            ·replace hm := hm.2 hc; ((conv=>whnf);repeat (first|apply Hs|apply Hx);conv=>whnf)
             refine ⟨false, rfl, (fun hc => nomatch hc), fun _ => ?_⟩; ((conv=>whnf);repeat (first|apply Hs|apply Hx);conv=>whnf)
             refine ⟨_, rfl, fun hc => ?_, fun hc => ?_⟩
             ·replace hm := hm.1 hc; ((conv=>whnf);repeat (first|apply Hs|apply Hx);conv=>whnf)
              refine lenM (s := 1) (enc := i64) (l := r44.1) rfl rfl ?_; ((conv=>whnf);repeat (first|apply Hs|apply Hx);conv=>whnf)
              exact ⟨((ltN 0 r44.1.length), ()), hm, ⟨(O.sel [] (by decide)), trivial⟩, VLe.refl _ _, VLe.refl _ _, trivial⟩
             ·replace hm := hm.2 hc; ((conv=>whnf);repeat (first|apply Hs|apply Hx);conv=>whnf)
              exact ⟨(false, ()), hm, ⟨(O.sel [] (by decide)), trivial⟩, VLe.refl _ _, VLe.refl _ _, trivial⟩
        ·clear hm; rintro ⟨v45, _⟩ base h hm ⟨O, _⟩
         ((conv=>whnf);repeat (first|apply Cs|apply Hs|apply Hx);conv=>whnf)
         refine ⟨_, rfl, fun hc => ?_, fun hc => ?_⟩
         ·replace hm := hm.1 hc
          apply Cs;((conv=>whnf);repeat (first|apply Cs|apply Hs|apply Hx);conv=>whnf)
          exact ⟨false, hm, O.ext, fun h2 F => VLe.refl _ _⟩
         ·replace hm := hm.2 hc
          apply Cs;((conv=>whnf);repeat (first|apply Cs|apply Hs|apply Hx);conv=>whnf)
          refine lenM (s := 1) (enc := n8) (l := p2) rfl rfl ?_; ((conv=>whnf);repeat (first|apply Cs|apply Hs|apply Hx);conv=>whnf)
          refine ⟨_, rfl, fun hc => ?_, fun hc => ?_⟩
          ·replace hm := hm.1 hc
           apply Cs;((conv=>whnf);repeat (first|apply Cs|apply Hs|apply Hx);conv=>whnf)
           obtain ⟨r48, hm, hcall⟩ := law24_lives_walk hm O.has
           refine ⟨_, _, hcall, ?_⟩; ((conv=>whnf);repeat (first|apply Cs|apply Hs|apply Hx);conv=>whnf)
           exact ⟨r48, hm, O.ext, fun h2 F => VLe.refl _ _⟩
          ·replace hm := hm.2 hc
           apply Cs;((conv=>whnf);repeat (first|apply Cs|apply Hs|apply Hx);conv=>whnf)
           obtain ⟨x49, hx49, hm⟩ := hm
           refine flAtM (s := 1) (enc := n8) (j := 0) rfl rfl rfl rfl hx49 ?_; ((conv=>whnf);repeat (first|apply Hs|apply Hx);conv=>whnf)
           refine ⟨_, (rfl : aread _ _ _ _ = some _), ?_⟩; ((conv=>whnf);repeat (first|apply Hs|apply Hx);conv=>whnf)
           apply Cs;conv=>whnf
           apply Cs;((conv=>whnf);repeat (first|apply Hs|apply Hx);conv=>whnf)
           have O := O.addNil (.cells (flatC ((([] : List Nat)).map n8)) false)
           refine CodeS.joinWS hm (nn := 247) (σ := (List Nat) × Option Nat) (fun s => s.1) (fun (v52, a51) h => (a51 = none → v52 = []) ∧ Own vars h0 [(a51, .cells (flatC (v52.map n8)) false)] h ∧ True) (fun (v52, a51) => [(18, (n8 x49)), (19, (growV 1 a51 (v52.map n8)))]) rfl (fun hm' => ?_) ?_
           ·replace hm := hm'
            apply Cs;((conv=>whnf);repeat (first|apply Cs|apply Hs|apply Hx);conv=>whnf)
            refine loopWK hM (by kernel_rfl) (nn := 247) (S := ((List Nat) × Nat)) (σ := ((List Nat) × Nat) × Option Nat) (fun s => s.1) (fun ((v56, v57), a55) h => (a55 = none → v56 = []) ∧ Own vars h0 [(a55, .cells (flatC (v56.map n8)) false)] h ∧ True) (fun ((v56, v57), a55) => [(2, ((encL 1 n8) p2)), (18, (n8 x49)), (19, (growV 1 a55 (v56.map n8))), (20, (i64 v57))]) rfl ((([] : List Nat), 1), none) hm ⟨(fun _ => rfl), O, trivial⟩ ⟨VLe.refl _ _, VLe.refl _ _, VLe.refl _ _, VLe.refl _ _, trivial⟩ ?_
            clear hm; rintro ⟨⟨v56, v57⟩, a55⟩ nx59 base h hm ⟨ha58, O, _⟩
            ((conv=>whnf);repeat (first|apply Cs|apply Hs|apply Hx);conv=>whnf)
            refine lenM (s := 1) (enc := n8) (l := p2) rfl rfl ?_; ((conv=>whnf);repeat (first|apply Cs|apply Hs|apply Hx);conv=>whnf)
            refine ⟨_, rfl, fun hc => ?_, fun hc => ?_⟩
            ·replace hm := hm.1 hc
             apply Cs;((conv=>whnf);repeat (first|apply Cs|apply Hs|apply Hx);conv=>whnf)
             refine NewG.frz rfl ?_; ((conv=>whnf);repeat (first|apply Hs|apply Hx);conv=>whnf)
             refine O.appendL (enc := n8) (l := v56) (new := ([2] : (List Nat))) (s := 1) (b := 1) (.head _) ha58 rfl rfl rfl rfl rfl rfl rfl rfl (YOk.fl rfl) (fun _ => rfl) (fun _ => rfl) (by decide) hm.1 fun a60 h ha61 O => ?_; ((conv=>whnf);repeat (first|apply Cs|apply Hs|apply Hx);conv=>whnf)
             replace hm := hm.2
             refine ⟨_, addK (a := v57) (b := 1) rfl rfl hm.1, ?_⟩; ((conv=>whnf);repeat (first|apply Hs|apply Hx);conv=>whnf)
             replace hm := hm.2
             exact ⟨(((v56 ++ ([2] : (List Nat))), (v57 + 1)), a60), hm, ⟨ha61, O, trivial⟩, VLe.refl _ _, VLe.refl _ _, VLe.refl _ _, VLe.refl _ _, trivial⟩
            ·replace hm := hm.2 hc
             apply Cs;((conv=>whnf);repeat (first|apply Cs|apply Hs|apply Hx);conv=>whnf)
             exact ⟨(v56, a55), hm, ⟨ha58, O, trivial⟩, VLe.refl _ _, VLe.refl _ _, trivial⟩
           ·clear hm; rintro ⟨v52, a51⟩ base h hm ⟨ha53, O, _⟩
            ((conv=>whnf);repeat (first|apply Cs|apply Hs|apply Hx);conv=>whnf)
            obtain ⟨r62, hm, hcall⟩ := logic_Fanin_walk hm O.has
            refine ⟨_, _, hcall, ?_⟩; ((conv=>whnf);repeat (first|apply Hs|apply Hx);conv=>whnf)
            refine CodeS.joinWS hm (nn := 247) (σ := Bool × Unit) (fun s => s.1) (fun (v63, _) h => (a51 = none → v52 = []) ∧ Own vars h0 [(a51, .cells (flatC (v52.map n8)) false)] h ∧ True) (fun (v63, _) => [(18, (n8 x49)), (19, (growV 1 a51 (v52.map n8))), (23, (.bool v63))]) rfl (fun hm' => ?_) ?_
            ·replace hm := hm'
             apply Cs;((conv=>whnf);repeat (first|apply Cs|apply Hs|apply Hx);conv=>whnf)
             refine ⟨_, rfl, fun hc => ?_, fun hc => ?_⟩
             ·replace hm := hm.1 hc; ((conv=>whnf);repeat (first|apply Hs|apply Hx);conv=>whnf)
              refine ⟨true, rfl, fun _ => ?_, (fun hc => nomatch hc)⟩; ((conv=>whnf);repeat (first|apply Hs|apply Hx);conv=>whnf)
              refine ⟨true, rfl, fun _ => ?_, (fun hc => nomatch hc)⟩; ((conv=>whnf);repeat (first|apply Hs|apply Hx);conv=>whnf)
              refine lenG (enc := n8) (l := v52) rfl rfl ?_; ((conv=>whnf);repeat (first|apply Hs|apply Hx);conv=>whnf)
              refine ⟨_, rfl, fun hc => ?_, fun hc => ?_⟩
              ·replace hm := hm.1 hc; ((conv=>whnf);repeat (first|apply Hs|apply Hx);conv=>whnf)
               refine lenG (enc := n8) (l := v52) rfl rfl ?_; ((conv=>whnf);repeat (first|apply Hs|apply Hx);conv=>whnf)
               exact ⟨((!ltI r62.2 (Int.ofNat v52.length)), ()), hm, ⟨ha53, O, trivial⟩, VLe.refl _ _, VLe.refl _ _, VLe.refl _ _, trivial⟩
              ·replace hm := hm.2 hc; ((conv=>whnf);repeat (first|apply Hs|apply Hx);conv=>whnf)
               exact ⟨(false, ()), hm, ⟨ha53, O, trivial⟩, VLe.refl _ _, VLe.refl _ _, VLe.refl _ _, trivial⟩
             ·replace hm := hm.2 hc; ((conv=>whnf);repeat (first|apply Hs|apply Hx);conv=>whnf)
              refine ⟨_, rfl, fun hc => ?_, fun hc => ?_⟩
              ·replace hm := hm.1 hc; ((conv=>whnf);repeat (first|apply Hs|apply Hx);conv=>whnf)
               refine ⟨true, rfl, fun _ => ?_, (fun hc => nomatch hc)⟩; ((conv=>whnf);repeat (first|apply Hs|apply Hx);conv=>whnf)
               refine lenG (enc := n8) (l := v52) rfl rfl ?_; ((conv=>whnf);repeat (first|apply Hs|apply Hx);conv=>whnf)
               refine ⟨_, rfl, fun hc => ?_, fun hc => ?_⟩
               ·replace hm := hm.1 hc; ((conv=>whnf);repeat (first|apply Hs|apply Hx);conv=>whnf)
                refine lenG (enc := n8) (l := v52) rfl rfl ?_; ((conv=>whnf);repeat (first|apply Hs|apply Hx);conv=>whnf)
                exact ⟨((!ltI r62.2 (Int.ofNat v52.length)), ()), hm, ⟨ha53, O, trivial⟩, VLe.refl _ _, VLe.refl _ _, VLe.refl _ _, trivial⟩
               ·replace hm := hm.2 hc; ((conv=>whnf);repeat (first|apply Hs|apply Hx);conv=>whnf)
                exact ⟨(false, ()), hm, ⟨ha53, O, trivial⟩, VLe.refl _ _, VLe.refl _ _, VLe.refl _ _, trivial⟩
              ·replace hm := hm.2 hc; ((conv=>whnf);repeat (first|apply Hs|apply Hx);conv=>whnf)
               refine ⟨_, rfl, fun hc => ?_, fun hc => ?_⟩
               ·replace hm := hm.1 hc; ((conv=>whnf);repeat (first|apply Hs|apply Hx);conv=>whnf)
                refine ⟨_, rfl, fun hc => ?_, fun hc => ?_⟩
                ·replace hm := hm.1 hc; ((conv=>whnf);repeat (first|apply Hs|apply Hx);conv=>whnf)
                 refine lenG (enc := n8) (l := v52) rfl rfl ?_; ((conv=>whnf);repeat (first|apply Hs|apply Hx);conv=>whnf)
                 refine ⟨_, rfl, fun hc => ?_, fun hc => ?_⟩
                 ·replace hm := hm.1 hc; ((conv=>whnf);repeat (first|apply Hs|apply Hx);conv=>whnf)
                  refine lenG (enc := n8) (l := v52) rfl rfl ?_; ((conv=>whnf);repeat (first|apply Hs|apply Hx);conv=>whnf)
                  exact ⟨((!ltI r62.2 (Int.ofNat v52.length)), ()), hm, ⟨ha53, O, trivial⟩, VLe.refl _ _, VLe.refl _ _, VLe.refl _ _, trivial⟩
                 ·replace hm := hm.2 hc; ((conv=>whnf);repeat (first|apply Hs|apply Hx);conv=>whnf)
                  exact ⟨(false, ()), hm, ⟨ha53, O, trivial⟩, VLe.refl _ _, VLe.refl _ _, VLe.refl _ _, trivial⟩
                ·replace hm := hm.2 hc; ((conv=>whnf);repeat (first|apply Hs|apply Hx);conv=>whnf)
                 refine ⟨false, rfl, (fun hc => nomatch hc), fun _ => ?_⟩; ((conv=>whnf);repeat (first|apply Hs|apply Hx);conv=>whnf)
                 exact ⟨(false, ()), hm, ⟨ha53, O, trivial⟩, VLe.refl _ _, VLe.refl _ _, VLe.refl _ _, trivial⟩
               ·replace hm := hm.2 hc; ((conv=>whnf);repeat (first|apply Hs|apply Hx);conv=>whnf)
                refine ⟨false, rfl, (fun hc => nomatch hc), fun _ => ?_⟩; ((conv=>whnf);repeat (first|apply Hs|apply Hx);conv=>whnf)
                refine ⟨false, rfl, (fun hc => nomatch hc), fun _ => ?_⟩; ((conv=>whnf);repeat (first|apply Hs|apply Hx);conv=>whnf)
                exact ⟨(false, ()), hm, ⟨ha53, O, trivial⟩, VLe.refl _ _, VLe.refl _ _, VLe.refl _ _, trivial⟩
            ·clear hm; rintro ⟨v63, _⟩ base h hm ⟨ha64, O, _⟩
             ((conv=>whnf);repeat (first|apply Cs|apply Hs|apply Hx);conv=>whnf)
             refine O.useG (fun _ hb => implies_Gate_walk hm hb) (.head _) ha64 (fun _ => rfl) (i := 2) rfl (by kernel_rfl) (fun h2 q => (LLe.cons (VLe.refl _ _) (LLe.cons (VLe.refl _ _) (LLe.cons (q) (LLe.nil _))))) (fun r66 h hm' O => ?_); replace hm := hm'; ((conv=>whnf);repeat (first|apply Cs|apply Hs|apply Hx);conv=>whnf)
             refine ⟨_, rfl, fun hc => ?_, fun hc => ?_⟩
             ·replace hm := hm.1 hc; ((conv=>whnf);repeat (first|apply Hs|apply Hx);conv=>whnf)
              refine ⟨_, rfl, fun hc => ?_, fun hc => ?_⟩
              ·replace hm := hm.1 hc; ((conv=>whnf);repeat (first|apply Hs|apply Hx);conv=>whnf)
               refine ⟨true, rfl, fun _ => ?_, (fun hc => nomatch hc)⟩; ((conv=>whnf);repeat (first|apply Hs|apply Hx);conv=>whnf)
               obtain ⟨r67, hm, hcall⟩ := law24_lives_walk hm O.has
               refine ⟨_, _, hcall, ?_⟩; ((conv=>whnf);repeat (first|apply Cs|apply Hs|apply Hx);conv=>whnf)
               exact ⟨r67, hm, O.ext, fun h2 F => VLe.refl _ _⟩
              ·replace hm := hm.2 hc; ((conv=>whnf);repeat (first|apply Hs|apply Hx);conv=>whnf)
               refine ⟨_, rfl, fun hc => ?_, fun hc => ?_⟩
               ·replace hm := hm.1 hc; ((conv=>whnf);repeat (first|apply Hs|apply Hx);conv=>whnf)
                refine lenM (s := 1) (enc := n8) (l := r66.2.1) rfl rfl ?_; ((conv=>whnf);repeat (first|apply Hs|apply Hx);conv=>whnf)
                refine ⟨_, rfl, fun hc => ?_, fun hc => ?_⟩
                ·replace hm := hm.1 hc; ((conv=>whnf);repeat (first|apply Hs|apply Hx);conv=>whnf)
                 obtain ⟨r68, hm, hcall⟩ := law24_lives_walk hm O.has
                 refine ⟨_, _, hcall, ?_⟩; ((conv=>whnf);repeat (first|apply Cs|apply Hs|apply Hx);conv=>whnf)
                 exact ⟨r68, hm, O.ext, fun h2 F => VLe.refl _ _⟩
                ·replace hm := hm.2 hc; ((conv=>whnf);repeat (first|apply Cs|apply Hs|apply Hx);conv=>whnf)
                 exact ⟨false, hm, O.ext, fun h2 F => VLe.refl _ _⟩
               ·replace hm := hm.2 hc; ((conv=>whnf);repeat (first|apply Hs|apply Hx);conv=>whnf)
                refine ⟨false, rfl, (fun hc => nomatch hc), fun _ => ?_⟩; ((conv=>whnf);repeat (first|apply Cs|apply Hs|apply Hx);conv=>whnf)
                exact ⟨false, hm, O.ext, fun h2 F => VLe.refl _ _⟩
             ·replace hm := hm.2 hc; ((conv=>whnf);repeat (first|apply Hs|apply Hx);conv=>whnf)
              refine ⟨false, rfl, (fun hc => nomatch hc), fun _ => ?_⟩; ((conv=>whnf);repeat (first|apply Cs|apply Hs|apply Hx);conv=>whnf)
              exact ⟨false, hm, O.ext, fun h2 F => VLe.refl _ _⟩
end Go.Proofs.YtfhldkgelipnaaaDoor

namespace Go.Proofs.YtfhldkgelipnaaaDoor
open Go.Abs
set_option maxRecDepth 100000
theorem beqF {a b : Nat} (h : ¬ a = b) : Nat.beq a b = false := by
  cases e : Nat.beq a b
  · rfl
  · exact absurd (Nat.eq_of_beq_eq_true e) h
theorem joinP {α : Type} {first : (α → Prop) → Prop} {rest : α → Prop} (P : α → Prop) (h1 : ∀ k, (∀ a, P a → k a) → first k) (h2 : ∀ a, P a → rest a) : joinW first rest := h1 rest h2
theorem impliesErrors_vc {x : CData} (hx : CB x) (net : Int) {l : List Nat} (hl : ∀ v ∈ l, v < 256) : probecardlaw24_ImpliesErrors_wp x net l (· = true) := by
  unfold probecardlaw24_ImpliesErrors_wp
  refine ⟨fun _ => rfl, fun q => of_circ_vc hx ?_⟩
  have hl8 := lt_f.1 q
  clear q
  have G := good_circ' x
  have f3 := circ_few3' x
  have hpos : 0 < (circN x).nodes.length := by
    rw [show (circN x).nodes.length = (rawN x).length from updN_length _]; exact rawN_pos x
  generalize circN x = c at G f3 hpos ⊢
  have hlen := G.len
  have get : ∀ i, i < l.length → l[i]? = some (l.getD i 0) ∧ l.getD i 0 < 256 := fun i hi => ⟨getD_some hi, hl _ (getD_mem hi)⟩
  refine check_vc G ?_
  -- why it is refused
  refine joinB (a := wantN c) (fun F => joinB (a := ltN 0 c.mems.length || ltN 0 (ofN c [12, 13, 15]).length) (fun F2 => ⟨fun _ => ⟨fun q => ?_, fun q => of_vc (by omega) (by decide) ?_⟩, (fun q => by cases q)⟩) ⟨fun e => ?_, fun e => ?_⟩) ?_
  · rw [q, Bool.true_or] at F2; exact F2
  · rw [q, Bool.false_or] at F2; exact F2
  · unfold wantN at F; rw [if_pos e] at F; exact F
  · unfold wantN at F; rw [if_neg (by rw [e]; decide)] at F; exact F
  have hw := want_or c
  -- the value
  refine joinB (a := if 0 < l.length then l.getD 0 0 else 2) (fun F => ⟨fun q => ?_, fun q => ?_⟩) ?_
  · have q := lt_t.1 q
    rw [if_pos q] at F
    exact ⟨_, (get 0 q).1, F⟩
  · have q := lt_f.1 q
    rw [if_neg (by omega)] at F
    exact F
  generalize (if 0 < l.length then l.getD 0 0 else 2) = v
  refine joinB (a := givenE c net v) (fun F => joinB (a := decide (wantN c = 0 ∧ (net < 0 ∨ Int.ofNat c.nodes.length ≤ net ∨ 1 < v))) (fun F2 => ⟨fun q => ?_, fun q => ?_⟩) ⟨fun e => ?_, fun e => ?_⟩) ?_
  · have q := eq_t.1 q
    refine ⟨fun q2 => ?_, fun q2 => ⟨fun q3 => ?_, fun q3 => ?_⟩⟩
    · have q2 := ltZ_t.1 q2
      rw [decide_eq_true ⟨q, .inl q2⟩] at F2; exact F2
    · have q3 : Int.ofNat c.nodes.length ≤ net := ltZ_f.1 (by simpa using q3)
      rw [decide_eq_true ⟨q, .inr (.inl q3)⟩] at F2; exact F2
    · have q2 := ltZ_f.1 q2
      have q3 : net < Int.ofNat c.nodes.length := ltZ_t.1 (by simpa using q3)
      have e : ltN 1 v = decide (wantN c = 0 ∧ (net < 0 ∨ Int.ofNat c.nodes.length ≤ net ∨ 1 < v)) := by
        rw [ltN_eq]
        refine decide_eq_decide.2 ⟨fun h => ⟨q, .inr (.inr h)⟩, fun h => ?_⟩
        rcases h.2 with h | h | h
        · simp only [Int.ofNat_eq_natCast] at q2; omega
        · omega
        · exact h
      rw [e]; exact F2
  · have q := eq_f.1 q
    rw [decide_eq_false fun h => q h.1] at F2; exact F2
  · have e := of_decide_eq_true e
    unfold givenE at F; rw [if_pos e] at F; exact F
  · have e := of_decide_eq_false e
    unfold givenE at F; rw [if_neg e] at F; exact F
  refine ⟨by omega, by omega, ?_⟩
  -- the values
  refine joinP (fun s => s.1.length ≤ 17 ∧ 0 < s.1.length ∧ (∀ u ∈ s.1, u ≤ 2) ∧ ((wantN c ≠ 0 ∧ s.2 = wantN c) ∨ (wantN c = 0 ∧ s.1.length ≠ c.nodes.length ∧ s.2 = 8) ∨ (wantN c = 0 ∧ s.1.length = c.nodes.length ∧ s.2 = 0))) ?_ ?_
  · intro k hk
    refine joinP (fun _ => True) (fun k2 hk2 => ⟨fun q => ⟨_, (get 1 (lt_t.1 q)).1, by decide, hk2 _ trivial⟩, fun _ => hk2 _ trivial⟩) fun b _ => ⟨fun _ => ⟨by simp only [List.length_replicate, List.length_singleton]; omega, fun q => hk _ ⟨?_, ?_, ?_, ?_⟩, fun q => hk _ ⟨?_, ?_, ?_, ?_⟩⟩, fun _ => hk _ ⟨?_, ?_, ?_, ?_⟩⟩
    · simp; omega
    · simp
    · intro u m
      simp only [List.mem_append, List.mem_replicate, List.mem_singleton] at m; omega
    · exact .inr (.inl ⟨eq_t.1 q, by simp, rfl⟩)
    · simp; omega
    · simp
    · intro u m
      simp only [List.mem_append, List.mem_replicate, List.mem_singleton] at m; omega
    · exact .inl ⟨eq_f.1 q, rfl⟩
    · simp; omega
    · simp; omega
    · intro u m
      simp only [List.mem_replicate] at m; omega
    · by_cases q : wantN c = 0
      · exact .inr (.inr ⟨q, by simp, q⟩)
      · exact .inl ⟨q, rfl⟩
  rintro ⟨vs, o⟩ ⟨h1, h2, h3, h4⟩
  dsimp only at h1 h2 h3 h4
  refine joinP (fun s => s.1.length ≤ 17 ∧ OpenOk c s.1 s.2) ?_ ?_
  · intro k hk
    have same : OpenOk c vs o := by
      rcases h4 with h | h | ⟨ha, hb, hc⟩
      · exact .inl h
      · exact .inr (.inl h)
      · exact .inr (.inr (.inr ⟨ha, hb, h3, hc⟩))
    refine joinP (fun b => b = true → 2 < l.length) (fun k2 hk2 => ⟨fun q => hk2 _ fun e => lt_t.1 e, fun _ => hk2 _ (fun e => by cases e)⟩) fun b hb => ⟨fun e => ?_, fun _ => hk _ ⟨h1, same⟩⟩
    have g2 := get 2 (hb e)
    have hi := Nat.mod_lt (l.getD 2 0) h2
    refine ⟨_, g2.1, g2.2, h2, _, g2.1, by decide, _, getD_some hi, ?_⟩
    have hlen2 : (vs.set (l.getD 2 0 % vs.length) (l.getD 2 0 % 5)).length = vs.length := List.length_set
    have hmem : l.getD 2 0 % 5 ∈ vs.set (l.getD 2 0 % vs.length) (l.getD 2 0 % 5) := List.mem_set hi _
    refine joinP (fun b => b = decide (o = 0 ∧ 2 < l.getD 2 0 % 5)) (fun k2 hk2 => ⟨fun q => ⟨_, g2.1, by decide, hk2 _ ?_⟩, fun q => hk2 _ ?_⟩) ?_
    · rw [ltN_eq]
      exact decide_eq_decide.2 ⟨fun h => ⟨eq_t.1 q, h⟩, fun h => h.2⟩
    · exact (decide_eq_false fun h => eq_f.1 q h.1).symm
    · rintro b rfl
      refine ⟨fun e => hk _ ⟨by dsimp only; omega, ?_⟩, fun e => hk _ ⟨by dsimp only; omega, ?_⟩⟩
      · obtain ⟨e1, e2⟩ := of_decide_eq_true e
        dsimp only
        rcases h4 with ⟨ha, hc⟩ | ⟨ha, hb, hc⟩ | ⟨ha, hb, hc⟩
        · omega
        · omega
        · exact .inr (.inr (.inl ⟨ha, by rw [hlen2]; exact hb, ⟨_, hmem, e2⟩, rfl⟩))
      · have e := of_decide_eq_false e
        dsimp only
        rcases h4 with ⟨ha, hc⟩ | ⟨ha, hb, hc⟩ | ⟨ha, hb, hc⟩
        · exact .inl ⟨ha, hc⟩
        · exact .inr (.inl ⟨ha, by rw [hlen2]; exact hb, hc⟩)
        · refine .inr (.inr (.inr ⟨ha, by rw [hlen2]; exact hb, fun u m => ?_, hc⟩))
          rcases List.mem_or_eq_of_mem_set m with m | rfl
          · exact h3 u m
          · omega
  rintro ⟨vs2, o2⟩ ⟨h5, h6⟩
  dsimp only at h5 h6
  clear h1 h2 h3 h4
  refine closeZ_res G f3 fun r hr1 hr2 => unj_res G h6 (by omega) fun s hs => ?_
  refine joinB (a := false) (fun F => plainW_vc G ⟨fun q => absurd rfl (ne_t.1 q), fun _ => ⟨fun q => absurd hr1 (ne_t.1 q), fun _ => ⟨fun q => absurd rfl (ne_t.1 q), fun _ => ?_⟩⟩⟩) ⟨(fun e => by cases e), fun _ => ?_⟩
  · by_cases e : o2 = 0
    · refine ⟨fun q => ?_, fun q => ⟨fun q => absurd e (ne_t.1 q), fun _ => F⟩⟩
      have q := ne_t.1 q
      rw [hr1] at q
      obtain ⟨e1, e2⟩ := hr2 q
      refine ⟨(fun e => by rw [e2] at e; cases e), fun _ => ?_⟩
      rw [e1]
      exact ⟨(fun e => by cases e), fun _ => ⟨fun q => absurd e (ne_t.1 q), fun _ => F⟩⟩
    · have hs := hs e
      subst hs
      refine ⟨fun q => ?_, fun q => ⟨fun _ => F, fun _ => F⟩⟩
      have q := ne_t.1 q
      rw [hr1] at q
      obtain ⟨e1, e2⟩ := hr2 q
      refine ⟨(fun e => by rw [e2] at e; cases e), fun _ => ?_⟩
      rw [e1]
      exact ⟨(fun e => by cases e), fun _ => ⟨fun _ => F, fun _ => F⟩⟩
  -- a kind
  refine ⟨fun _ => rfl, fun q => ?_⟩
  have q := eq_f.1 q
  have hl0 : 0 < l.length := by omega
  obtain ⟨g0, g1⟩ := get 0 hl0
  refine ⟨_, g0, ?_⟩
  generalize l.getD 0 0 = kk at g1 ⊢
  refine joinLoop (fun s => 1 ≤ s.2 ∧ s.2 ≤ l.length ∧ s.1 = List.replicate (s.2 - 1) 2) (fun s => l.length - s.2) (fun a => a = List.replicate (l.length - 1) 2) ?_ ⟨Nat.le_refl _, hl0, rfl⟩ ?_
  · rintro k ⟨a, i⟩ nx ⟨hi1, hi, hI⟩ hnx hk
    dsimp only at hi1 hi hI
    subst hI
    refine ⟨fun q => ?_, fun q => ?_⟩
    · have q := lt_t.1 q
      (try dsimp only at q)
      refine ⟨by simp only [List.length_replicate, List.length_singleton]; omega, by omega, hnx _ ⟨by dsimp only; omega, by dsimp only; omega, ?_⟩ (by dsimp only; omega)⟩
      dsimp only
      rw [show i + 1 - 1 = (i - 1) + 1 by omega, List.replicate_succ']
    · have q := lt_f.1 q
      (try dsimp only at q)
      have : i = l.length := by omega
      subst this
      exact hk _ rfl
  rintro a rfl
  have hm : l.length - 1 < 8 := by omega
  generalize l.length - 1 = m at hm ⊢
  obtain ⟨t1, t2⟩ := gate_unknown m hm kk g1
  refine fanin_vc g1 ?_
  have e1 : (!ltN (List.replicate m 2).length (loN kk)) = Nat.ble (loN kk) m := by
    rw [List.length_replicate, Bool.eq_iff_iff, nlt_t, Nat.ble_eq]
  have e2 : (!ltI (hiZ kk) (Int.ofNat (List.replicate m 2).length)) = decide (Int.ofNat m ≤ hiZ kk) := by
    rw [List.length_replicate, Bool.eq_iff_iff]
    simp only [Bool.not_eq_true', decide_eq_true_eq]
    exact ltZ_f
  refine joinB (a := goodK kk m) (fun F => ?_) ?_
  · have two : ((!ltN (List.replicate m 2).length (loN kk)) = true → goodK kk m = (!ltI (hiZ kk) (Int.ofNat (List.replicate m 2).length)) ∨ (Nat.beq kk 1 || Nat.beq kk 2 || (Nat.ble 3 kk && Nat.ble kk 11)) = false) ∧ ((!ltN (List.replicate m 2).length (loN kk)) = false → goodK kk m = false) := by
      rw [e1, e2]
      unfold goodK
      refine ⟨fun h => ?_, fun h => ?_⟩
      · rw [h]
        cases (Nat.beq kk 1 || Nat.beq kk 2 || (Nat.ble 3 kk && Nat.ble kk 11)) <;> simp
      · rw [h]; simp
    have A : (Nat.beq kk 1 || Nat.beq kk 2 || (Nat.ble 3 kk && Nat.ble kk 11)) = true → (!ltN (List.replicate m 2).length (loN kk)) = true → goodK kk m = (!ltI (hiZ kk) (Int.ofNat (List.replicate m 2).length)) := fun hb q => by
      rcases two.1 q with e | e
      · exact e
      · rw [hb] at e; cases e
    refine ⟨fun q1 => ⟨fun q => ?_, fun q => (by rw [two.2 q] at F; exact F)⟩, fun q1 => ⟨fun q2 => ⟨fun q => ?_, fun q => (by rw [two.2 q] at F; exact F)⟩, fun q2 => ⟨fun q3 => ⟨fun q4 => ⟨fun q => ?_, fun q => (by rw [two.2 q] at F; exact F)⟩, fun q4 => ?_⟩, fun q3 => ?_⟩⟩⟩
    · rw [A (by rw [eq_t.1 q1]; rfl) q] at F; exact F
    · rw [A (by rw [eq_t.1 q2]; rfl) q] at F; exact F
    · have q3 := nlt_t.1 q3
      have q4 := nlt_t.1 q4
      rw [A (by rw [Bool.or_eq_true, Bool.and_eq_true]; exact .inr ⟨Nat.ble_eq_true_of_le q3, Nat.ble_eq_true_of_le q4⟩) q] at F; exact F
    · have q1 := eq_f.1 q1
      have q2 := eq_f.1 q2
      have q4 := nlt_f.1 q4
      have : goodK kk m = false := by
        unfold goodK
        rw [beqF q1, beqF q2, show Nat.ble kk 11 = false from by rw [← Bool.not_eq_true, Nat.ble_eq]; omega]
        simp
      rw [this] at F; exact F
    · have q1 := eq_f.1 q1
      have q2 := eq_f.1 q2
      have q3 := nlt_f.1 q3
      have : goodK kk m = false := by
        unfold goodK
        rw [beqF q1, beqF q2, show Nat.ble 3 kk = false from by rw [← Bool.not_eq_true, Nat.ble_eq]; omega]
        simp
      rw [this] at F; exact F
  refine ⟨g1, by rw [List.length_replicate]; omega, okG_ok t1, ?_⟩
  refine ⟨fun _ => ⟨fun _ => rfl, fun q => ?_⟩, fun q => ?_⟩
  · obtain ⟨n1, n2⟩ := gateR_no q
    rw [n1, n2]
    exact ⟨fun _ => ⟨fun _ => rfl, (fun q => by cases q)⟩, (fun q => by cases q)⟩
  · rw [t2] at q
    simp at q
end Go.Proofs.YtfhldkgelipnaaaDoor

namespace Go.Proofs.YtfhldkgelipnaaaDoor
open Go.Abs
set_option maxRecDepth 100000
def shI : Sh := .int .i64
def impliesErrors_sh : List (Sh × Bool) := [(shC, true), (shI, false), (.slice shB, false)]
theorem impliesErrors_call (x : DenL impliesErrors_sh) (w : wfL impliesErrors_sh x) : FnV Tryd.prog NG vars 3 ⟨argL impliesErrors_sh x⟩ (.bool true) := by
  obtain ⟨c, n, vs, u⟩ := x
  obtain ⟨wc, wn, wv, _⟩ := w
  obtain ⟨y, hy, e1⟩ := c_arg wc
  obtain ⟨l, hl, e2⟩ := bytes_arg wv
  have e : argL impliesErrors_sh (c, n, vs, u) = [encC y, z64 n, encL 1 n8 l] := by
    show [elV (!true) (shC.cellsF c), elV (!false) (shI.cellsF n), elV (!false) ((Sh.slice shB).cellsF vs)] = _
    rw [e1, e2]; rfl
  rw [e]
  exact FnV.of_walk (enc := Value.bool) (r := true) (PureV.flat rfl) fun h hB => probecardlaw24_ImpliesErrors_walk (impliesErrors_vc hy n hl) hB
end Go.Proofs.YtfhldkgelipnaaaDoor
