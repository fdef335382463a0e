/-
  The law PairsOrder: its walk.
-/
import Derived.Test.YtbfgncmnallhlaaDoorArgs
namespace Go.Proofs.YtbfgncmnallhlaaDoor
open Go.Abs
set_option maxRecDepth 100000

theorem pairsOrder_run {h : Heap} (hv : Vars h) {a b c d : Int} (ha : 0 ≤ a) (hb : 0 ≤ b) (hc0 : 0 ≤ c) (hd : 0 ≤ d) : CallD Tryd.prog NG 9 #[pr a b, pr c d] h (.bool true) h := by
  refine fnP hM Tryd.func9 rfl (hP _ _ rfl Tryd.func9) (Nat.le_of_ble_eq_true rfl) (by kernel_rfl) ?_; ((conv => whnf); repeat ((first | refine CodeS.step ?_ | refine RegS.step ?_ | refine RegXS.step ?_); (conv => whnf)))
  refine ⟨_, _, boxK rfl, fun h1 n1 => ?_⟩; ((conv => whnf); repeat ((first | refine CodeS.step ?_ | refine RegS.step ?_ | refine RegXS.step ?_); (conv => whnf)))
  refine ⟨_, _, boxK rfl, fun h2 n2 => ?_⟩; ((conv => whnf); repeat ((first | refine RegS.step ?_ | refine RegXS.step ?_); (conv => whnf)))
  have e1 : h2.get h.size = some (.cells [.int .u8 a, .int .u8 b] false) := n2.keep n1.get
  have e2 : h2.get h1.size = some (.cells [.int .u8 c, .int .u8 d] false) := n2.get
  have E : Ext h h2 := n2.exts n1.ext
  refine CodeS.step ?_; (conv => whnf)
  refine CodeS.join (nn := 77) (fun h' => h' = h2) [(2, .pointer (some ⟨h.size, 0, none⟩)), (3, .pointer (some ⟨h1.size, 0, none⟩)), (33, .bool false)] rfl ?_ ?_
  · ((conv => whnf); repeat ((first | refine CodeS.step ?_ | refine RegS.step ?_ | refine RegXS.step ?_); (conv => whnf)))
    repeat ((first | refine ⟨_, loadK rfl (by assumption) rfl rfl, ?_⟩ | refine ⟨_, loadAggK rfl (by assumption) rfl rfl (Nat.le_of_ble_eq_true rfl) rfl, ?_⟩ | refine ⟨_, _, pbelow_ok ha hb hc0 hd, ?_⟩ | refine ⟨_, _, below_ok ha hc0, ?_⟩ | refine ⟨_, eqPair rfl rfl, ?_⟩ | refine ⟨_, nePair rfl rfl, ?_⟩ | refine ⟨_, buildPair rfl, ?_⟩ | refine ⟨.inl rfl, ?_⟩ | refine ⟨.inl (Ext.refl _), ?_⟩ | refine ⟨.inl plain_pr, ?_⟩ | refine ⟨.inl (plain_pr (a := _)), ?_⟩); ((conv => whnf); repeat ((first | refine CodeS.step ?_ | refine RegS.step ?_ | refine RegXS.step ?_); (conv => whnf))))
    refine ⟨_, rfl, fun hc => ?_, fun hc => ?_⟩
    · ((conv => whnf); repeat ((first | refine CodeS.step ?_ | refine RegS.step ?_ | refine RegXS.step ?_); (conv => whnf)))
      have hB := hc
      repeat ((first | refine ⟨_, loadK rfl (by assumption) rfl rfl, ?_⟩ | refine ⟨_, loadAggK rfl (by assumption) rfl rfl (Nat.le_of_ble_eq_true rfl) rfl, ?_⟩ | refine ⟨_, _, below_ok hb hd, ?_⟩ | refine ⟨_, eqPair rfl rfl, ?_⟩ | refine ⟨_, nePair rfl rfl, ?_⟩ | refine ⟨_, buildPair rfl, ?_⟩ | refine ⟨.inl rfl, ?_⟩ | refine ⟨.inl (Ext.refl _), ?_⟩ | refine ⟨.inl plain_pr, ?_⟩ | refine ⟨.inl (plain_pr (a := _)), ?_⟩); ((conv => whnf); repeat ((first | refine CodeS.step ?_ | refine RegS.step ?_ | refine RegXS.step ?_); (conv => whnf))))
      refine ⟨_, rfl, fun hc => ?_, fun hc => ?_⟩
      · exfalso; simp [pbelowL, hB] at hc
      · ((conv => whnf); repeat ((first | refine CodeS.step ?_ | refine RegS.step ?_ | refine RegXS.step ?_); (conv => whnf)))
        repeat ((first | refine ⟨_, loadK rfl (by assumption) rfl rfl, ?_⟩ | refine ⟨_, loadAggK rfl (by assumption) rfl rfl (Nat.le_of_ble_eq_true rfl) rfl, ?_⟩ | refine ⟨_, _, pknown_ok ha hb, ?_⟩ | refine ⟨_, _, known_ok ha, ?_⟩ | refine ⟨_, eqPair rfl rfl, ?_⟩ | refine ⟨_, nePair rfl rfl, ?_⟩ | refine ⟨_, buildPair rfl, ?_⟩ | refine ⟨.inl rfl, ?_⟩ | refine ⟨.inl (Ext.refl _), ?_⟩ | refine ⟨.inl plain_pr, ?_⟩ | refine ⟨.inl (plain_pr (a := _)), ?_⟩); ((conv => whnf); repeat ((first | refine CodeS.step ?_ | refine RegS.step ?_ | refine RegXS.step ?_); (conv => whnf))))
        refine ⟨_, rfl, fun hc => ?_, fun hc => ?_⟩
        · ((conv => whnf); repeat ((first | refine CodeS.step ?_ | refine RegS.step ?_ | refine RegXS.step ?_); (conv => whnf)))
          have hK := hc
          repeat ((first | refine ⟨_, loadK rfl (by assumption) rfl rfl, ?_⟩ | refine ⟨_, loadAggK rfl (by assumption) rfl rfl (Nat.le_of_ble_eq_true rfl) rfl, ?_⟩ | refine ⟨_, _, known_ok hb, ?_⟩ | refine ⟨_, eqPair rfl rfl, ?_⟩ | refine ⟨_, nePair rfl rfl, ?_⟩ | refine ⟨_, buildPair rfl, ?_⟩ | refine ⟨.inl rfl, ?_⟩ | refine ⟨.inl (Ext.refl _), ?_⟩ | refine ⟨.inl plain_pr, ?_⟩ | refine ⟨.inl (plain_pr (a := _)), ?_⟩); ((conv => whnf); repeat ((first | refine CodeS.step ?_ | refine RegS.step ?_ | refine RegXS.step ?_); (conv => whnf))))
          exact ⟨rfl, rfl, rfl, congrArg Value.bool (by simp [pknownL, hK]), trivial⟩
        · ((conv => whnf); repeat ((first | refine CodeS.step ?_ | refine RegS.step ?_ | refine RegXS.step ?_); (conv => whnf)))
          have hK := hc
          exact ⟨rfl, rfl, rfl, congrArg Value.bool (by simp [pknownL, hK]), trivial⟩
    · ((conv => whnf); repeat ((first | refine CodeS.step ?_ | refine RegS.step ?_ | refine RegXS.step ?_); (conv => whnf)))
      have hB := hc
      refine ⟨_, rfl, fun hc => ?_, fun hc => ?_⟩
      · exfalso; simp [pbelowL, hB] at hc
      · ((conv => whnf); repeat ((first | refine CodeS.step ?_ | refine RegS.step ?_ | refine RegXS.step ?_); (conv => whnf)))
        repeat ((first | refine ⟨_, loadK rfl (by assumption) rfl rfl, ?_⟩ | refine ⟨_, loadAggK rfl (by assumption) rfl rfl (Nat.le_of_ble_eq_true rfl) rfl, ?_⟩ | refine ⟨_, _, pknown_ok ha hb, ?_⟩ | refine ⟨_, _, known_ok ha, ?_⟩ | refine ⟨_, eqPair rfl rfl, ?_⟩ | refine ⟨_, nePair rfl rfl, ?_⟩ | refine ⟨_, buildPair rfl, ?_⟩ | refine ⟨.inl rfl, ?_⟩ | refine ⟨.inl (Ext.refl _), ?_⟩ | refine ⟨.inl plain_pr, ?_⟩ | refine ⟨.inl (plain_pr (a := _)), ?_⟩); ((conv => whnf); repeat ((first | refine CodeS.step ?_ | refine RegS.step ?_ | refine RegXS.step ?_); (conv => whnf))))
        refine ⟨_, rfl, fun hc => ?_, fun hc => ?_⟩
        · ((conv => whnf); repeat ((first | refine CodeS.step ?_ | refine RegS.step ?_ | refine RegXS.step ?_); (conv => whnf)))
          have hK := hc
          repeat ((first | refine ⟨_, loadK rfl (by assumption) rfl rfl, ?_⟩ | refine ⟨_, loadAggK rfl (by assumption) rfl rfl (Nat.le_of_ble_eq_true rfl) rfl, ?_⟩ | refine ⟨_, _, known_ok hb, ?_⟩ | refine ⟨_, eqPair rfl rfl, ?_⟩ | refine ⟨_, nePair rfl rfl, ?_⟩ | refine ⟨_, buildPair rfl, ?_⟩ | refine ⟨.inl rfl, ?_⟩ | refine ⟨.inl (Ext.refl _), ?_⟩ | refine ⟨.inl plain_pr, ?_⟩ | refine ⟨.inl (plain_pr (a := _)), ?_⟩); ((conv => whnf); repeat ((first | refine CodeS.step ?_ | refine RegS.step ?_ | refine RegXS.step ?_); (conv => whnf))))
          exact ⟨rfl, rfl, rfl, congrArg Value.bool (by simp [pknownL, hK]), trivial⟩
        · ((conv => whnf); repeat ((first | refine CodeS.step ?_ | refine RegS.step ?_ | refine RegXS.step ?_); (conv => whnf)))
          have hK := hc
          exact ⟨rfl, rfl, rfl, congrArg Value.bool (by simp [pknownL, hK]), trivial⟩
  rintro base h' rfl
  ((conv => whnf); repeat ((first | refine CodeS.step ?_ | refine RegS.step ?_ | refine RegXS.step ?_); (conv => whnf)))
  refine ⟨false, rfl, (fun hc => nomatch hc), fun _ => ?_⟩; (conv => whnf); refine CodeS.step ?_; (conv => whnf)
  have hd1 : differsL (cleanL b) (cleanL b) = false := by
    unfold differsL eqP
    generalize cleanL b = x
    by_cases h1 : x = 1
    · subst h1; rfl
    · by_cases h0 : x = 0
      · subst h0; rfl
      · simp [h1, h0]
  refine CodeS.join (nn := 77) (fun h'' => h'' = h') [] rfl ?_ ?_
  · ((conv => whnf); repeat ((first | refine CodeS.step ?_ | refine RegS.step ?_ | refine RegXS.step ?_); (conv => whnf)))
    repeat ((first | refine ⟨_, loadK rfl (by assumption) rfl rfl, ?_⟩ | refine ⟨_, loadAggK rfl (by assumption) rfl rfl (Nat.le_of_ble_eq_true rfl) rfl, ?_⟩ | refine ⟨_, _, differs_ok, ?_⟩ | refine ⟨_, _, D_ok, ?_⟩ | refine ⟨_, _, B_ok, ?_⟩ | refine ⟨_, _, of_ok ha, ?_⟩ | refine ⟨_, _, clean_ok ha, ?_⟩ | refine ⟨_, _, of_ok hb, ?_⟩ | refine ⟨_, eqPair rfl rfl, ?_⟩ | refine ⟨_, nePair rfl rfl, ?_⟩ | refine ⟨_, buildPair rfl, ?_⟩ | refine ⟨.inl rfl, ?_⟩ | refine ⟨.inl (Ext.refl _), ?_⟩ | refine ⟨.inl plain_pr, ?_⟩ | refine ⟨.inl (plain_pr (a := _)), ?_⟩); ((conv => whnf); repeat ((first | refine CodeS.step ?_ | refine RegS.step ?_ | refine RegXS.step ?_); (conv => whnf))))
    refine ⟨_, rfl, fun hc => ?_, fun hc => ?_⟩
    · have hD : eqP a b 1 0 = true := hc
      ((conv => whnf); repeat ((first | refine CodeS.step ?_ | refine RegS.step ?_ | refine RegXS.step ?_); (conv => whnf)))
      repeat ((first | refine ⟨_, loadK rfl (by assumption) rfl rfl, ?_⟩ | refine ⟨_, loadAggK rfl (by assumption) rfl rfl (Nat.le_of_ble_eq_true rfl) rfl, ?_⟩ | refine ⟨_, _, differs_ok, ?_⟩ | refine ⟨_, _, D_ok, ?_⟩ | refine ⟨_, _, B_ok, ?_⟩ | refine ⟨_, _, of_ok ha, ?_⟩ | refine ⟨_, _, clean_ok ha, ?_⟩ | refine ⟨_, _, of_ok hb, ?_⟩ | refine ⟨_, eqPair rfl rfl, ?_⟩ | refine ⟨_, nePair rfl rfl, ?_⟩ | refine ⟨_, buildPair rfl, ?_⟩ | refine ⟨.inl rfl, ?_⟩ | refine ⟨.inl (Ext.refl _), ?_⟩ | refine ⟨.inl plain_pr, ?_⟩ | refine ⟨.inl (plain_pr (a := _)), ?_⟩); ((conv => whnf); repeat ((first | refine CodeS.step ?_ | refine RegS.step ?_ | refine RegXS.step ?_); (conv => whnf))))
      refine ⟨_, rfl, fun hc => ?_, fun hc => ?_⟩
      · exfalso; simp [differsL, hD] at hc
      · ((conv => whnf); repeat ((first | refine CodeS.step ?_ | refine RegS.step ?_ | refine RegXS.step ?_); (conv => whnf)))
        repeat ((first | refine ⟨_, loadK rfl (by assumption) rfl rfl, ?_⟩ | refine ⟨_, loadAggK rfl (by assumption) rfl rfl (Nat.le_of_ble_eq_true rfl) rfl, ?_⟩ | refine ⟨_, _, differs_ok, ?_⟩ | refine ⟨_, _, D_ok, ?_⟩ | refine ⟨_, _, B_ok, ?_⟩ | refine ⟨_, _, of_ok ha, ?_⟩ | refine ⟨_, _, clean_ok ha, ?_⟩ | refine ⟨_, _, of_ok hb, ?_⟩ | refine ⟨_, eqPair rfl rfl, ?_⟩ | refine ⟨_, nePair rfl rfl, ?_⟩ | refine ⟨_, buildPair rfl, ?_⟩ | refine ⟨.inl rfl, ?_⟩ | refine ⟨.inl (Ext.refl _), ?_⟩ | refine ⟨.inl plain_pr, ?_⟩ | refine ⟨.inl (plain_pr (a := _)), ?_⟩); ((conv => whnf); repeat ((first | refine CodeS.step ?_ | refine RegS.step ?_ | refine RegXS.step ?_); (conv => whnf))))
        refine ⟨_, rfl, fun hc => ?_, fun hc => ?_⟩
        · exfalso; simp at hc
        · ((conv => whnf); repeat ((first | refine CodeS.step ?_ | refine RegS.step ?_ | refine RegXS.step ?_); (conv => whnf)))
          repeat ((first | refine ⟨_, loadK rfl (by assumption) rfl rfl, ?_⟩ | refine ⟨_, loadAggK rfl (by assumption) rfl rfl (Nat.le_of_ble_eq_true rfl) rfl, ?_⟩ | refine ⟨_, _, of_ok hb, ?_⟩ | refine ⟨_, _, differs_ok, ?_⟩ | refine ⟨_, eqPair rfl rfl, ?_⟩ | refine ⟨_, nePair rfl rfl, ?_⟩ | refine ⟨_, buildPair rfl, ?_⟩ | refine ⟨.inl rfl, ?_⟩ | refine ⟨.inl (Ext.refl _), ?_⟩ | refine ⟨.inl plain_pr, ?_⟩ | refine ⟨.inl (plain_pr (a := _)), ?_⟩); ((conv => whnf); repeat ((first | refine CodeS.step ?_ | refine RegS.step ?_ | refine RegXS.step ?_); (conv => whnf))))
          refine ⟨_, rfl, (fun hx => nomatch (hx.symm.trans hd1)), fun _ => ?_⟩; ((conv => whnf); repeat ((first | refine CodeS.step ?_ | refine RegS.step ?_ | refine RegXS.step ?_); (conv => whnf)))
          exact ⟨rfl, trivial⟩
    · have hD : eqP a b 1 0 = false := hc
      ((conv => whnf); repeat ((first | refine CodeS.step ?_ | refine RegS.step ?_ | refine RegXS.step ?_); (conv => whnf)))
      repeat ((first | refine ⟨_, loadK rfl (by assumption) rfl rfl, ?_⟩ | refine ⟨_, loadAggK rfl (by assumption) rfl rfl (Nat.le_of_ble_eq_true rfl) rfl, ?_⟩ | refine ⟨_, _, differs_ok, ?_⟩ | refine ⟨_, _, D_ok, ?_⟩ | refine ⟨_, _, B_ok, ?_⟩ | refine ⟨_, _, of_ok ha, ?_⟩ | refine ⟨_, _, clean_ok ha, ?_⟩ | refine ⟨_, _, of_ok hb, ?_⟩ | refine ⟨_, eqPair rfl rfl, ?_⟩ | refine ⟨_, nePair rfl rfl, ?_⟩ | refine ⟨_, buildPair rfl, ?_⟩ | refine ⟨.inl rfl, ?_⟩ | refine ⟨.inl (Ext.refl _), ?_⟩ | refine ⟨.inl plain_pr, ?_⟩ | refine ⟨.inl (plain_pr (a := _)), ?_⟩); ((conv => whnf); repeat ((first | refine CodeS.step ?_ | refine RegS.step ?_ | refine RegXS.step ?_); (conv => whnf))))
      refine ⟨_, rfl, fun hc => ?_, fun hc => ?_⟩
      · exfalso
        unfold differsL at hc
        rw [hD] at hc
        simp only [Bool.false_or] at hc
        change (!(eqP a b 0 1 == eqP a b 0 1)) = true at hc
        simp at hc
      · ((conv => whnf); repeat ((first | refine CodeS.step ?_ | refine RegS.step ?_ | refine RegXS.step ?_); (conv => whnf)))
        repeat ((first | refine ⟨_, loadK rfl (by assumption) rfl rfl, ?_⟩ | refine ⟨_, loadAggK rfl (by assumption) rfl rfl (Nat.le_of_ble_eq_true rfl) rfl, ?_⟩ | refine ⟨_, _, differs_ok, ?_⟩ | refine ⟨_, _, D_ok, ?_⟩ | refine ⟨_, _, B_ok, ?_⟩ | refine ⟨_, _, of_ok ha, ?_⟩ | refine ⟨_, _, clean_ok ha, ?_⟩ | refine ⟨_, _, of_ok hb, ?_⟩ | refine ⟨_, eqPair rfl rfl, ?_⟩ | refine ⟨_, nePair rfl rfl, ?_⟩ | refine ⟨_, buildPair rfl, ?_⟩ | refine ⟨.inl rfl, ?_⟩ | refine ⟨.inl (Ext.refl _), ?_⟩ | refine ⟨.inl plain_pr, ?_⟩ | refine ⟨.inl (plain_pr (a := _)), ?_⟩); ((conv => whnf); repeat ((first | refine CodeS.step ?_ | refine RegS.step ?_ | refine RegXS.step ?_); (conv => whnf))))
        refine ⟨_, rfl, fun hc => ?_, fun hc => ?_⟩
        · exfalso; simp at hc
        · ((conv => whnf); repeat ((first | refine CodeS.step ?_ | refine RegS.step ?_ | refine RegXS.step ?_); (conv => whnf)))
          repeat ((first | refine ⟨_, loadK rfl (by assumption) rfl rfl, ?_⟩ | refine ⟨_, loadAggK rfl (by assumption) rfl rfl (Nat.le_of_ble_eq_true rfl) rfl, ?_⟩ | refine ⟨_, _, of_ok hb, ?_⟩ | refine ⟨_, _, differs_ok, ?_⟩ | refine ⟨_, eqPair rfl rfl, ?_⟩ | refine ⟨_, nePair rfl rfl, ?_⟩ | refine ⟨_, buildPair rfl, ?_⟩ | refine ⟨.inl rfl, ?_⟩ | refine ⟨.inl (Ext.refl _), ?_⟩ | refine ⟨.inl plain_pr, ?_⟩ | refine ⟨.inl (plain_pr (a := _)), ?_⟩); ((conv => whnf); repeat ((first | refine CodeS.step ?_ | refine RegS.step ?_ | refine RegXS.step ?_); (conv => whnf))))
          refine ⟨_, rfl, (fun hx => nomatch (hx.symm.trans hd1)), fun _ => ?_⟩; ((conv => whnf); repeat ((first | refine CodeS.step ?_ | refine RegS.step ?_ | refine RegXS.step ?_); (conv => whnf)))
          exact ⟨rfl, trivial⟩
  rintro base h'' rfl
  ((conv => whnf); repeat ((first | refine CodeS.step ?_ | refine RegS.step ?_ | refine RegXS.step ?_); (conv => whnf)))
  repeat ((first | refine ⟨_, loadK rfl (by assumption) rfl rfl, ?_⟩ | refine ⟨_, loadAggK rfl (by assumption) rfl rfl (Nat.le_of_ble_eq_true rfl) rfl, ?_⟩ | refine ⟨_, _, D_ok, ?_⟩ | refine ⟨_, _, B_ok, ?_⟩ | refine ⟨_, eqPair rfl rfl, ?_⟩ | refine ⟨_, nePair rfl rfl, ?_⟩ | refine ⟨_, buildPair rfl, ?_⟩ | refine ⟨.inl rfl, ?_⟩ | refine ⟨.inl (Ext.refl _), ?_⟩ | refine ⟨.inl plain_pr, ?_⟩ | refine ⟨.inl (plain_pr (a := _)), ?_⟩); ((conv => whnf); repeat ((first | refine CodeS.step ?_ | refine RegS.step ?_ | refine RegXS.step ?_); (conv => whnf))))
  refine ⟨true, rfl, fun _ => ?_, (fun hc => nomatch hc)⟩; ((conv => whnf); repeat ((first | refine CodeS.step ?_ | refine RegS.step ?_ | refine RegXS.step ?_); (conv => whnf)))
  repeat ((first | refine ⟨_, loadK rfl (by assumption) rfl rfl, ?_⟩ | refine ⟨_, loadAggK rfl (by assumption) rfl rfl (Nat.le_of_ble_eq_true rfl) rfl, ?_⟩ | refine ⟨_, _, D_ok, ?_⟩ | refine ⟨_, _, B_ok, ?_⟩ | refine ⟨_, eqPair rfl rfl, ?_⟩ | refine ⟨_, nePair rfl rfl, ?_⟩ | refine ⟨_, buildPair rfl, ?_⟩ | refine ⟨.inl rfl, ?_⟩ | refine ⟨.inl (Ext.refl _), ?_⟩ | refine ⟨.inl plain_pr, ?_⟩ | refine ⟨.inl (plain_pr (a := _)), ?_⟩); ((conv => whnf); repeat ((first | refine CodeS.step ?_ | refine RegS.step ?_ | refine RegXS.step ?_); (conv => whnf))))
  refine ⟨_, _, buildK (vs := [pr 1 0]) (s := 2) rfl rfl zeroPair plainsPair rfl rfl rfl rfl (by intro v hv; simp only [List.mem_singleton] at hv; subst hv; rfl), fun h3 n3 => ?_⟩; ((conv => whnf); repeat ((first | refine CodeS.step ?_ | refine RegS.step ?_ | refine RegXS.step ?_); (conv => whnf)))
  have s1 : Sl h3 2 (.slice (some ⟨h''.size, 0, none⟩) 1 1) (prs [(1, 0)]) := Sl.of_flat n3.get (by intro v hv; simp only [prs, List.map_cons, List.map_nil, List.mem_singleton] at hv; subst hv; rfl) rfl (Nat.le_refl _) (r := []) rfl
  refine ⟨_, _, peval_ok (by decide) (by decide) (hv.ext (n3.exts E)) s1 (by intro q hq; simp only [List.mem_singleton] at hq; subst hq; decide) (by decide), ?_⟩; ((conv => whnf); repeat ((first | refine CodeS.step ?_ | refine RegS.step ?_ | refine RegXS.step ?_); (conv => whnf)))
  repeat ((first | refine ⟨_, loadK rfl (by assumption) rfl rfl, ?_⟩ | refine ⟨_, loadAggK rfl (by assumption) rfl rfl (Nat.le_of_ble_eq_true rfl) rfl, ?_⟩ | refine ⟨_, _, D_ok, ?_⟩ | refine ⟨_, _, B_ok, ?_⟩ | refine ⟨_, eqPair rfl rfl, ?_⟩ | refine ⟨_, nePair rfl rfl, ?_⟩ | refine ⟨_, buildPair rfl, ?_⟩ | refine ⟨.inl rfl, ?_⟩ | refine ⟨.inl (Ext.refl _), ?_⟩ | refine ⟨.inl plain_pr, ?_⟩ | refine ⟨.inl (plain_pr (a := _)), ?_⟩); ((conv => whnf); repeat ((first | refine CodeS.step ?_ | refine RegS.step ?_ | refine RegXS.step ?_); (conv => whnf))))
  refine ⟨true, rfl, fun _ => ?_, (fun hc => nomatch hc)⟩; ((conv => whnf); repeat ((first | refine CodeS.step ?_ | refine RegS.step ?_ | refine RegXS.step ?_); (conv => whnf)))
  refine ⟨_, _, lives2_ok (hv.ext (n3.exts E)), ?_⟩; ((conv => whnf); repeat ((first | refine CodeS.step ?_ | refine RegS.step ?_ | refine RegXS.step ?_); (conv => whnf)))
  exact ⟨rfl, n3.exts E⟩

theorem pairsOrder_call (h : Heap) (x : DenL [(shPair, true), (shPair, true)]) (avs : List Value) (hv : Vars h) (r : RepL h [(shPair, true), (shPair, true)] x avs) : CallD Tryd.prog NG 9 ⟨avs⟩ h (.bool true) h := by
  obtain ⟨x, y, z⟩ := x
  obtain ⟨_, _, rfl, w1, r1, _, _, rfl, w2, r2, rfl⟩ := r
  obtain ⟨rfl, h1, h2⟩ := rep_pair w1 r1
  obtain ⟨rfl, h3, h4⟩ := rep_pair w2 r2
  exact pairsOrder_run hv h1.1 h2.1 h3.1 h4.1
end Go.Proofs.YtbfgncmnallhlaaDoor
