/-
  Lives24, Lv24, I1, P9, Pa, Pb, Pc: parts of the proof.
-/
import Derived.Test.YtfhldkgelipnaaaDoorIe43
namespace Go.Proofs.YtfhldkgelipnaaaDoor
open Go.Abs
set_option maxRecDepth 100000
theorem lives24 : isTrue (runFn Tryd.prog [] (orcExt Tryd.prog) 60 5 #[] (heapOf vars)) = true := by kernel_rfl
end Go.Proofs.YtfhldkgelipnaaaDoor

namespace Go.Proofs.YtfhldkgelipnaaaDoor
open Go.Abs
set_option maxRecDepth 100000
theorem lives_fn : FnV Tryd.prog NG vars 5 #[] (.bool true) := by
  obtain ⟨h', e⟩ := isTrue_iff lives24
  have c := (runFn_sound hM hP (fun f vs h v e => orcExt_sound f vs h v e) 60 _ _ _ _ _ e).1
  refine ⟨PureV.flatB rfl, fun h b => c.lift (by simp) rfl (bears_vars (hasSize b) (hasVars b))⟩
def law24_lives_wp (K : Bool → Prop) : Prop := K true
theorem law24_lives_walk {K : Bool → Prop} (hm : law24_lives_wp K) {h0 : Heap} (hB : HasB vars h0) : ∃ r, K r ∧ CallD Tryd.prog NG 5 ⟨[]⟩ h0 (Value.bool r) h0 := FnV.walk (enc := Value.bool) lives_fn hm hB
end Go.Proofs.YtfhldkgelipnaaaDoor

namespace Go.Proofs.YtfhldkgelipnaaaDoor
open Go.Abs
set_option maxRecDepth 100000
set_option maxHeartbeats 8000000
def implies_Plain_wp (p0 : Circ) (K : Nat → Prop) : Prop :=
  netlists_Check_wp p0 (fun r1 => ((neN r1 0) = true → K r1) ∧ ((neN r1 0) = false → joinW (α := Bool) (fun k3 => ((ltN 0 p0.mems.length) = true → k3 true) ∧ ((ltN 0 p0.mems.length) = false → netlists_Of_wp p0 ([12, 13, 15] : (List Nat)) (fun r4 => k3 (ltN 0 r4.length)))) (fun v2 => (v2 = true → K 7) ∧ (v2 = false → K 0))))
theorem implies_Plain_walk {p0 : Circ} {K : Nat → Prop} (hm : implies_Plain_wp p0 K) {h0 : Heap} (hB : HasB vars h0) : ∃ r, K r ∧ CallD Tryd.prog NG 11 ⟨[encCirc p0]⟩ h0 (i64 r) h0 := by
  unfold implies_Plain_wp at hm
  refine fnW hM Tryd.func11 rfl (hP _ _ rfl Tryd.func11) (Nat.le_of_ble_eq_true rfl) hB (enc := i64) (fun r => PureV.flat rfl) fun O => ?_; conv=>whnf
  apply Cs;((conv=>whnf);repeat (first|apply Cs|apply Hs|apply Hx);conv=>whnf)
  refine NewG.frz rfl ?_; ((conv=>whnf);repeat (first|apply Cs|apply Hs|apply Hx);conv=>whnf)
  refine ⟨_, (rfl : aread _ _ _ _ = some _), ?_⟩; ((conv=>whnf);repeat (first|apply Hs|apply Hx);conv=>whnf)
  obtain ⟨r1, hm, hcall⟩ := netlists_Check_walk hm O.has
  refine ⟨_, _, hcall, ?_⟩; ((conv=>whnf);repeat (first|apply Cs|apply Hs|apply Hx);conv=>whnf)
  refine ⟨_, rfl, fun hc => ?_, fun hc => ?_⟩
  ·replace hm := hm.1 hc
   apply Cs;((conv=>whnf);repeat (first|apply Cs|apply Hs|apply Hx);conv=>whnf)
   exact ⟨r1, hm, O.ext, fun h2 F => VLe.refl _ _⟩
  ·replace hm := hm.2 hc
   apply Cs;conv=>whnf
   apply Cs;conv=>whnf
   refine CodeS.joinWS hm (nn := 20) (σ := Bool × Unit) (fun s => s.1) (fun (v2, _) h => Own vars h0 [] h ∧ True) (fun (v2, _) => [(19, (.bool v2))]) rfl (fun hm' => ?_) ?_
   ·replace hm := hm'
    apply Cs;((conv=>whnf);repeat (first|apply Cs|apply Hs|apply Hx);conv=>whnf)
    refine ⟨_, (rfl : aread _ _ _ _ = some _), ?_⟩; ((conv=>whnf);repeat (first|apply Hs|apply Hx);conv=>whnf)
    refine lenM (s := 3) (enc := encMem) (l := p0.mems) rfl rfl ?_; ((conv=>whnf);repeat (first|apply Hs|apply Hx);conv=>whnf)
    refine ⟨_, rfl, fun hc => ?_, fun hc => ?_⟩
    ·replace hm := hm.1 hc; ((conv=>whnf);repeat (first|apply Hs|apply Hx);conv=>whnf)
     exact ⟨(true, ()), hm, ⟨O, trivial⟩, VLe.refl _ _, trivial⟩
    ·replace hm := hm.2 hc; ((conv=>whnf);repeat (first|apply Hs|apply Hx);conv=>whnf)
     refine ⟨_, (rfl : aread _ _ _ _ = some _), ?_⟩; ((conv=>whnf);repeat (first|apply Hs|apply Hx);conv=>whnf)
     refine NewG.frz rfl ?_; ((conv=>whnf);repeat (first|apply Hs|apply Hx);conv=>whnf)
     obtain ⟨r4, hm, hcall⟩ := netlists_Of_walk hm O.has
     refine ⟨_, _, hcall, ?_⟩; ((conv=>whnf);repeat (first|apply Hs|apply Hx);conv=>whnf)
     refine lenM (s := 1) (enc := i64) (l := r4) rfl rfl ?_; ((conv=>whnf);repeat (first|apply Hs|apply Hx);conv=>whnf)
     exact ⟨((ltN 0 r4.length), ()), hm, ⟨O, trivial⟩, VLe.refl _ _, trivial⟩
   ·clear hm; rintro ⟨v2, _⟩ base h hm ⟨O, _⟩
    ((conv=>whnf);repeat (first|apply Cs|apply Hs|apply Hx);conv=>whnf)
    refine ⟨_, rfl, fun hc => ?_, fun hc => ?_⟩
    ·replace hm := hm.1 hc
     apply Cs;((conv=>whnf);repeat (first|apply Cs|apply Hs|apply Hx);conv=>whnf)
     exact ⟨7, hm, O.ext, fun h2 F => VLe.refl _ _⟩
    ·replace hm := hm.2 hc
     apply Cs;((conv=>whnf);repeat (first|apply Cs|apply Hs|apply Hx);conv=>whnf)
     exact ⟨0, hm, O.ext, fun h2 F => VLe.refl _ _⟩
def implies_free_wp (p0 : Nat) (K : Bool → Prop) : Prop :=
  ((eqN p0 0) = true → K true) ∧ ((eqN p0 0) = false → K (eqN p0 14))
theorem implies_free_walk {p0 : Nat} {K : Bool → Prop} (hm : implies_free_wp p0 K) {h0 : Heap} (hB : HasB vars h0) : ∃ r, K r ∧ CallD Tryd.prog NG 28 ⟨[n8 p0]⟩ h0 (Value.bool r) h0 := by
  unfold implies_free_wp at hm
  refine fnW hM Tryd.func28 rfl (hP _ _ rfl Tryd.func28) (Nat.le_of_ble_eq_true rfl) hB (enc := Value.bool) (fun r => PureV.flat rfl) fun O => ?_; conv=>whnf
  apply Cs;((conv=>whnf);repeat (first|apply Cs|apply Hs|apply Hx);conv=>whnf)
  refine ⟨_, rfl, fun hc => ?_, fun hc => ?_⟩
  ·replace hm := hm.1 hc; ((conv=>whnf);repeat (first|apply Cs|apply Hs|apply Hx);conv=>whnf)
   exact ⟨true, hm, O.ext, fun h2 F => VLe.refl _ _⟩
  ·replace hm := hm.2 hc; ((conv=>whnf);repeat (first|apply Cs|apply Hs|apply Hx);conv=>whnf)
   exact ⟨(eqN p0 14), hm, O.ext, fun h2 F => VLe.refl _ _⟩
def work_put_wp (nodes : List Node) (names : List ByteArray) (mems : List Memo) (outs : List Nat) (fan : List (List Ln)) (nv : Nat) (vals : List Nat) (wait : List Nat) (n : Nat) (x : Nat) (K : (Bool × (List Nat) × (List Nat)) → Prop) : Prop :=
  joinW (α := Bool) (fun k4 => ((eqN x 2) = true → k4 true) ∧ ((eqN x 2) = false → n < nv ∧ ∃ x5, vals[n]? = some x5 ∧ k4 (eqN x5 x))) (fun v1 => (v1 = true → K (true, vals, wait)) ∧ (v1 = false → n < nv ∧ ∃ x6, vals[n]? = some x6 ∧ joinW (α := (List Nat)) (fun k10 => ((eqN x6 2) = true → k10 (vals.set n x)) ∧ ((eqN x6 2) = false → k10 vals)) (fun v7 => ∃ x11, v7[n]? = some x11 ∧ ((!(eqN x11 x)) = true → K (false, v7, wait)) ∧ ((!(eqN x11 x)) = false → (wait.length + ([n] : (List Nat)).length) * 8 ≤ 2 ^ 47 ∧ joinW (α := (List Nat)) (fun k23 => ∃ x24, fan[n]? = some x24 ∧ loopW (S := ((List Nat) × Nat)) (fun (v28, v29) nx32 => ((ltN v29 x24.length) = true → ∃ x33, x24[v29]? = some x33 ∧ (v28.length + ([x33.node] : (List Nat)).length) * 8 ≤ 2 ^ 47 ∧ v29 + 1 < 2 ^ 63 ∧ nx32 ((v28 ++ ([x33.node] : (List Nat))), (v29 + 1))) ∧ ((ltN v29 x24.length) = false → k23 v28)) ((wait ++ ([n] : (List Nat))), 0)) (fun v20 => K (true, v7, v20))))))
theorem work_put_walk {nodes : List Node} {names : List ByteArray} {mems : List Memo} {outs : List Nat} {fan : List (List Ln)} {nv : Nat} {vals : List Nat} {wait : List Nat} {n : Nat} {x : Nat} {gw : Nat} {gv : Nat} {a : Option Nat} {pre : List Value} {off : Nat} {L : List Slot} {K : (Bool × (List Nat) × (List Nat)) → Prop} (hm : work_put_wp nodes names mems outs fan nv vals wait n x K) {h0 h : Heap} (ha : a = none → wait = []) (hp : pre.length = off) (O : Own vars h0 (((some gw), .cells [((encL 4 encNode) nodes), ((encL 1 Value.string) names), ((encL 3 encMem) mems), ((encL 1 i64) outs), ((encL 1 (encL 2 encLn)) fan), (.slice (some ⟨gv, 0, none⟩) nv nv), (tailV 1 a off (wait.map i64))] false) :: ((some gv), .cells (flatC (vals.map n8)) false) :: (a, .cells (pre ++ flatC (wait.map i64)) false) :: L) h) : ∃ v h', CallD Tryd.prog NG 27 ⟨[(.pointer (some ⟨gw, 0, none⟩)), (i64 n), (n8 x)]⟩ h v h' ∧ ∃ (u0 : Bool) (w0 : (List Nat)) (w4 : (List Nat)) (b1 : Option Nat) (b2 : (List Value)) (b3 : Nat), K (u0, w0, w4) ∧ v = (Value.bool u0) ∧ (b1 = none → w4 = []) ∧ (b2.length = b3) ∧ Own vars h0 (((some gw), .cells [((encL 4 encNode) nodes), ((encL 1 Value.string) names), ((encL 3 encMem) mems), ((encL 1 i64) outs), ((encL 1 (encL 2 encLn)) fan), (.slice (some ⟨gv, 0, none⟩) nv nv), (tailV 1 b1 b3 (w4.map i64))] false) :: ((some gv), .cells (flatC (w0.map n8)) false) :: (b1, .cells (b2 ++ flatC (w4.map i64)) false) :: L) h' ∧ True := by
  unfold work_put_wp at hm
  refine fnG hM Tryd.func27 rfl (hP _ _ rfl Tryd.func27) (Nat.le_of_ble_eq_true rfl) (Q := fun v h' => ∃ (u0 : Bool) (w0 : (List Nat)) (w4 : (List Nat)) (b1 : Option Nat) (b2 : (List Value)) (b3 : Nat), K (u0, w0, w4) ∧ v = (Value.bool u0) ∧ (b1 = none → w4 = []) ∧ (b2.length = b3) ∧ Own vars h0 (((some gw), .cells [((encL 4 encNode) nodes), ((encL 1 Value.string) names), ((encL 3 encMem) mems), ((encL 1 i64) outs), ((encL 1 (encL 2 encLn)) fan), (.slice (some ⟨gv, 0, none⟩) nv nv), (tailV 1 b1 b3 (w4.map i64))] false) :: ((some gv), .cells (flatC (w0.map n8)) false) :: (b1, .cells (b2 ++ flatC (w4.map i64)) false) :: L) h' ∧ True) ?_; conv=>whnf
  apply Cs;conv=>whnf
  apply Cs;((conv=>whnf);repeat (first|apply Hs|apply Hx);conv=>whnf)
  apply Cs;conv=>whnf
  refine CodeS.joinWS hm (nn := 65) (σ := Bool × Unit) (fun s => s.1) (fun (v1, _) h => (a = none → wait = []) ∧ (pre.length = off) ∧ Own vars h0 (((some gw), .cells [((encL 4 encNode) nodes), ((encL 1 Value.string) names), ((encL 3 encMem) mems), ((encL 1 i64) outs), ((encL 1 (encL 2 encLn)) fan), (.slice (some ⟨gv, 0, none⟩) nv nv), (tailV 1 a off (wait.map i64))] false) :: ((some gv), .cells (flatC (vals.map n8)) false) :: (a, .cells (pre ++ flatC (wait.map i64)) false) :: L) h ∧ True) (fun (v1, _) => [(0, (.pointer (some ⟨gw, 0, none⟩))), (1, (i64 n)), (2, (n8 x)), (21, (.bool v1))]) rfl (fun hm' => ?_) ?_
  ·replace hm := hm'
   apply Cs;((conv=>whnf);repeat (first|apply Cs|apply Hs|apply Hx);conv=>whnf)
   refine ⟨_, rfl, fun hc => ?_, fun hc => ?_⟩
   ·replace hm := hm.1 hc; ((conv=>whnf);repeat (first|apply Hs|apply Hx);conv=>whnf)
    exact ⟨(true, ()), hm, ⟨ha, hp, O, trivial⟩, VLe.refl _ _, VLe.refl _ _, VLe.refl _ _, VLe.refl _ _, trivial⟩
   ·replace hm := hm.2 hc; ((conv=>whnf);repeat (first|apply Hs|apply Hx);conv=>whnf)
    refine ⟨_, loadK rfl (O.at (.head _)) rfl rfl, ?_⟩; ((conv=>whnf);repeat (first|apply Hs|apply Hx);conv=>whnf)
    obtain ⟨hj, x5, hx5, hm⟩ := hm
    refine indexK (s := 1) (j := n) rfl rfl rfl rfl hj ?_; ((conv=>whnf);repeat (first|apply Hs|apply Hx);conv=>whnf)
    refine ⟨_, loadK rfl (O.at (.tail _ (.head _))) rfl (cell_map (enc := n8) (s := 1) (k := 0) (fun _ => rfl) hx5 rfl), ?_⟩; ((conv=>whnf);repeat (first|apply Hs|apply Hx);conv=>whnf)
    exact ⟨((eqN x5 x), ()), hm, ⟨ha, hp, O, trivial⟩, VLe.refl _ _, VLe.refl _ _, VLe.refl _ _, VLe.refl _ _, trivial⟩
  ·clear hm; rintro ⟨v1, _⟩ base h hm ⟨ha2, hp3, O, _⟩
   ((conv=>whnf);repeat (first|apply Cs|apply Hs|apply Hx);conv=>whnf)
   refine ⟨_, rfl, fun hc => ?_, fun hc => ?_⟩
   ·replace hm := hm.1 hc
    apply Cs;((conv=>whnf);repeat (first|apply Cs|apply Hs|apply Hx);conv=>whnf)
    exact ⟨true, vals, wait, a, pre, off, hm, rfl, ha2, hp3, O, trivial⟩
   ·replace hm := hm.2 hc
    apply Cs;((conv=>whnf);repeat (first|apply Cs|apply Hs|apply Hx);conv=>whnf)
    refine ⟨_, loadK rfl (O.at (.head _)) rfl rfl, ?_⟩; ((conv=>whnf);repeat (first|apply Hs|apply Hx);conv=>whnf)
    obtain ⟨hj, x6, hx6, hm⟩ := hm
    refine indexK (s := 1) (j := n) rfl rfl rfl rfl hj ?_; ((conv=>whnf);repeat (first|apply Hs|apply Hx);conv=>whnf)
    refine fnG hM Tryd.func44 rfl (hP _ _ rfl Tryd.func44) (Nat.le_of_ble_eq_true rfl) ?_; conv=>whnf
    apply Cs;conv=>whnf
    apply Cs;((conv=>whnf);repeat (first|apply Hs|apply Hx);conv=>whnf)
    refine CodeS.joinWS hm (nn := 17) (σ := (List Nat) × Unit) (fun s => s.1) (fun (v7, _) h => (a = none → wait = []) ∧ (pre.length = off) ∧ Own vars h0 (((some gv), .cells (flatC (v7.map n8)) false) :: ((some gw), .cells [((encL 4 encNode) nodes), ((encL 1 Value.string) names), ((encL 3 encMem) mems), ((encL 1 i64) outs), ((encL 1 (encL 2 encLn)) fan), (.slice (some ⟨gv, 0, none⟩) nv nv), (tailV 1 a off (wait.map i64))] false) :: (a, .cells (pre ++ flatC (wait.map i64)) false) :: L) h ∧ True) (fun (v7, _) => [(0, (.pointer (some ⟨gv, 0 + n * 1 + 0, none⟩))), (1, (n8 x))]) rfl (fun hm' => ?_) ?_
    ·replace hm := hm'
     apply Cs;((conv=>whnf);repeat (first|apply Cs|apply Hs|apply Hx);conv=>whnf)
     refine ⟨_, loadK rfl (O.at (.tail _ (.head _))) rfl (cell_map (enc := n8) (s := 1) (k := 0) (fun _ => rfl) hx6 rfl), ?_⟩; ((conv=>whnf);repeat (first|apply Cs|apply Hs|apply Hx);conv=>whnf)
     refine ⟨_, rfl, fun hc => ?_, fun hc => ?_⟩
     ·replace hm := hm.1 hc
      apply Cs;((conv=>whnf);repeat (first|apply Cs|apply Hs|apply Hx);conv=>whnf)
      refine O.store (n := 1) (.tail _ (.head _)) rfl rfl rfl rfl (el_le (enc := n8) (s := 1) (k := 0) (n := 1) (fun _ => rfl) (lt_of_get hx6) (Nat.le_of_ble_eq_true rfl)) rfl (splice_all (enc := n8) (s := 1) (fun _ => rfl) (lt_of_get hx6) (x := x) rfl) fun h O => ?_; ((conv=>whnf);repeat (first|apply Hs|apply Hx);conv=>whnf)
      exact ⟨((vals.set n x), ()), hm, ⟨ha2, hp3, (Own.selT [((some gw), .cells [((encL 4 encNode) nodes), ((encL 1 Value.string) names), ((encL 3 encMem) mems), ((encL 1 i64) outs), ((encL 1 (encL 2 encLn)) fan), (.slice (some ⟨gv, 0, none⟩) nv nv), (tailV 1 a off (wait.map i64))] false), ((some gv), .cells (flatC ((vals.set n x).map n8)) false), (a, .cells (pre ++ flatC (wait.map i64)) false)] O [1, 0, 2] (by decide)), trivial⟩, VLe.refl _ _, VLe.refl _ _, trivial⟩
     ·replace hm := hm.2 hc
      apply Cs;((conv=>whnf);repeat (first|apply Cs|apply Hs|apply Hx);conv=>whnf)
      exact ⟨(vals, ()), hm, ⟨ha2, hp3, (Own.selT [((some gw), .cells [((encL 4 encNode) nodes), ((encL 1 Value.string) names), ((encL 3 encMem) mems), ((encL 1 i64) outs), ((encL 1 (encL 2 encLn)) fan), (.slice (some ⟨gv, 0, none⟩) nv nv), (tailV 1 a off (wait.map i64))] false), ((some gv), .cells (flatC (vals.map n8)) false), (a, .cells (pre ++ flatC (wait.map i64)) false)] O [1, 0, 2] (by decide)), trivial⟩, VLe.refl _ _, VLe.refl _ _, trivial⟩
    ·clear hm; rintro ⟨v7, _⟩ base h hm ⟨ha8, hp9, O, _⟩
     ((conv=>whnf);repeat (first|apply Cs|apply Hs|apply Hx);conv=>whnf)
     obtain ⟨x11, hx11, hm⟩ := hm
     refine ⟨_, loadK rfl (O.at (.head _)) rfl (cell_map (enc := n8) (s := 1) (k := 0) (fun _ => rfl) hx11 rfl), ?_⟩; ((conv=>whnf);repeat (first|apply Cs|apply Hs|apply Hx);conv=>whnf)
     refine ⟨_, rfl, fun hc => ?_, fun hc => ?_⟩
     ·replace hm := hm.1 hc
      apply Cs;((conv=>whnf);repeat (first|apply Cs|apply Hs|apply Hx);conv=>whnf)
      exact ⟨false, v7, wait, a, pre, off, hm, rfl, ha8, hp9, (Own.selT [((some gv), .cells (flatC (v7.map n8)) false), ((some gw), .cells [((encL 4 encNode) nodes), ((encL 1 Value.string) names), ((encL 3 encMem) mems), ((encL 1 i64) outs), ((encL 1 (encL 2 encLn)) fan), (.slice (some ⟨gv, 0, none⟩) nv nv), (tailV 1 a off (wait.map i64))] false), (a, .cells (pre ++ flatC (wait.map i64)) false)] O [1, 0, 2] (by decide)), trivial⟩
     ·replace hm := hm.2 hc
      apply Cs;((conv=>whnf);repeat (first|apply Cs|apply Hs|apply Hx);conv=>whnf)
      refine ⟨_, loadK rfl (O.at (.tail _ (.head _))) rfl rfl, ?_⟩; ((conv=>whnf);repeat (first|apply Hs|apply Hx);conv=>whnf)
      refine NewG.frz rfl ?_; ((conv=>whnf);repeat (first|apply Hs|apply Hx);conv=>whnf)
      refine Own.appendT (enc := i64) (l := wait) (new := ([n] : (List Nat))) (s := 1) (b := 8) hp9 O (.tail _ (.tail _ (.head _))) ha8 rfl rfl rfl rfl rfl rfl rfl rfl (YOk.fl rfl) (fun _ => rfl) (fun _ => rfl) (by decide) hm.1 fun a12 q14 o15 h hp16 ha13 O => ?_; ((conv=>whnf);repeat (first|apply Hs|apply Hx);conv=>whnf)
      replace hm := hm.2
      refine O.store (n := 1) (cs' := [((encL 4 encNode) nodes), ((encL 1 Value.string) names), ((encL 3 encMem) mems), ((encL 1 i64) outs), ((encL 1 (encL 2 encLn)) fan), (.slice (some ⟨gv, 0, none⟩) nv nv), (tailV 1 a12 o15 ((wait ++ ([n] : (List Nat))).map i64))]) (.tail _ (.head _)) rfl rfl rfl rfl (Nat.le_of_ble_eq_true rfl) rfl rfl fun h O => ?_; ((conv=>whnf);repeat (first|apply Hs|apply Hx);conv=>whnf)
      refine CodeS.joinWS hm (nn := 65) (σ := (List Nat) × (Option Nat × (List Value) × Nat)) (fun s => s.1) (fun (v20, (a17, a18, a19)) h => (a17 = none → v20 = []) ∧ (a18.length = a19) ∧ Own vars h0 (((some gw), .cells [((encL 4 encNode) nodes), ((encL 1 Value.string) names), ((encL 3 encMem) mems), ((encL 1 i64) outs), ((encL 1 (encL 2 encLn)) fan), (.slice (some ⟨gv, 0, none⟩) nv nv), (tailV 1 a17 a19 (v20.map i64))] false) :: ((some gv), .cells (flatC (v7.map n8)) false) :: (a17, .cells (a18 ++ flatC (v20.map i64)) false) :: L) h ∧ True) (fun (v20, (a17, a18, a19)) => []) rfl (fun hm' => ?_) ?_
      ·replace hm := hm'
       apply Cs;((conv=>whnf);repeat (first|apply Cs|apply Hs|apply Hx);conv=>whnf)
       refine ⟨_, loadK rfl (O.at (.tail _ (.head _))) rfl rfl, ?_⟩; ((conv=>whnf);repeat (first|apply Hs|apply Hx);conv=>whnf)
       obtain ⟨x24, hx24, hm⟩ := hm
       refine flAtM (s := 1) (enc := (encL 2 encLn)) (j := n) rfl rfl rfl rfl hx24 ?_; ((conv=>whnf);repeat (first|apply Hs|apply Hx);conv=>whnf)
       refine ⟨_, (rfl : aread _ _ _ _ = some _), ?_⟩; ((conv=>whnf);repeat (first|apply Hs|apply Hx);conv=>whnf)
       refine lenM (s := 2) (enc := encLn) (l := x24) rfl rfl ?_; ((conv=>whnf);repeat (first|apply Cs|apply Hs|apply Hx);conv=>whnf)
       refine loopWK hM (by kernel_rfl) (nn := 65) (S := ((List Nat) × Nat)) (σ := ((List Nat) × Nat) × (Option Nat × (List Value) × Nat)) (fun s => s.1) (fun ((v28, v29), (a25, a26, a27)) h => (a25 = none → v28 = []) ∧ (a26.length = a27) ∧ Own vars h0 (((some gw), .cells [((encL 4 encNode) nodes), ((encL 1 Value.string) names), ((encL 3 encMem) mems), ((encL 1 i64) outs), ((encL 1 (encL 2 encLn)) fan), (.slice (some ⟨gv, 0, none⟩) nv nv), (tailV 1 a25 a27 (v28.map i64))] false) :: ((some gv), .cells (flatC (v7.map n8)) false) :: (a25, .cells (a26 ++ flatC (v28.map i64)) false) :: L) h ∧ True) (fun ((v28, v29), (a25, a26, a27)) => [(0, (.pointer (some ⟨gw, 0, none⟩))), (47, ((encL 2 encLn) x24)), (48, (i64 x24.length)), (49, (i64 v29))]) rfl (((wait ++ ([n] : (List Nat))), 0), (a12, q14, o15)) hm ⟨ha13, hp16, (Own.selT [((some gv), .cells (flatC (v7.map n8)) false), ((some gw), .cells [((encL 4 encNode) nodes), ((encL 1 Value.string) names), ((encL 3 encMem) mems), ((encL 1 i64) outs), ((encL 1 (encL 2 encLn)) fan), (.slice (some ⟨gv, 0, none⟩) nv nv), (tailV 1 a12 o15 ((wait ++ ([n] : (List Nat))).map i64))] false), (a12, .cells (q14 ++ flatC ((wait ++ ([n] : (List Nat))).map i64)) false)] O [1, 0, 2] (by decide)), trivial⟩ ⟨VLe.refl _ _, VLe.refl _ _, VLe.refl _ _, VLe.refl _ _, trivial⟩ ?_
       clear hm; rintro ⟨⟨v28, v29⟩, ⟨a25, a26, a27⟩⟩ nx32 base h hm ⟨ha30, hp31, O, _⟩
       ((conv=>whnf);repeat (first|apply Cs|apply Hs|apply Hx);conv=>whnf)
       refine ⟨_, rfl, fun hc => ?_, fun hc => ?_⟩
       ·replace hm := hm.1 hc
        apply Cs;((conv=>whnf);repeat (first|apply Cs|apply Hs|apply Hx);conv=>whnf)
        obtain ⟨x33, hx33, hm⟩ := hm
        refine flAtM (s := 2) (enc := encLn) (j := v29) rfl rfl rfl rfl hx33 ?_; ((conv=>whnf);repeat (first|apply Hs|apply Hx);conv=>whnf)
        refine ⟨_, (rfl : aread _ _ _ _ = some _), ?_⟩; ((conv=>whnf);repeat (first|apply Hs|apply Hx);conv=>whnf)
        refine O.new (anew_alloc (l := [(i64 0), (i64 0)]) rfl rfl rfl) fun g34 h O => ?_; ((conv=>whnf);repeat (first|apply Hs|apply Hx);conv=>whnf)
        refine O.store (n := 2) (cs' := [(i64 x33.node), (i64 x33.pin)]) (.head _) rfl rfl rfl rfl (Nat.le_of_ble_eq_true rfl) rfl rfl fun h O => ?_; ((conv=>whnf);repeat (first|apply Cs|apply Hs|apply Hx);conv=>whnf)
        refine ⟨_, loadK rfl (O.at (.tail _ (.head _))) rfl rfl, ?_⟩; ((conv=>whnf);repeat (first|apply Hs|apply Hx);conv=>whnf)
        first | refine ⟨.inr (.inr (loadK rfl (O.at (.tail _ (.head _))) rfl rfl)), ?_⟩ | refine ⟨.inr (.inl (by kernel_rfl)), ?_⟩
        ((conv=>whnf);repeat (first|apply Cs|apply Hs|apply Hx);conv=>whnf)
        refine ⟨_, loadK rfl (O.at (.head _)) rfl rfl, ?_⟩; ((conv=>whnf);repeat (first|apply Hs|apply Hx);conv=>whnf)
        refine ⟨.inl rfl, ?_⟩; ((conv=>whnf);repeat (first|apply Hs|apply Hx);conv=>whnf)
        refine O.buildLX (l := ([x33.node] : (List Nat))) (enc := i64) (s := 1) (z := (i64 0)) rfl rfl (by kernel_rfl) (by kernel_rfl) rfl rfl rfl rfl (fun _ => rfl) fun g36 h O => ?_; ((conv=>whnf);repeat (first|apply Hs|apply Hx);conv=>whnf)
        refine Own.appendT (enc := i64) (l := v28) (new := ([x33.node] : (List Nat))) (s := 1) (b := 8) hp31 O (.tail _ (.tail _ (.tail _ (.tail _ (.head _))))) ha30 rfl rfl rfl rfl rfl rfl rfl rfl (YOk.own (O.at (.head _)) rfl (fun _ => rfl) rfl) (fun _ => rfl) (fun _ => rfl) (by decide) hm.1 fun a38 q40 o41 h hp42 ha39 O => ?_; ((conv=>whnf);repeat (first|apply Hs|apply Hx);conv=>whnf)
        refine ⟨.inl rfl, ?_⟩; ((conv=>whnf);repeat (first|apply Hs|apply Hx);conv=>whnf)
        replace hm := hm.2
        refine O.store (n := 1) (cs' := [((encL 4 encNode) nodes), ((encL 1 Value.string) names), ((encL 3 encMem) mems), ((encL 1 i64) outs), ((encL 1 (encL 2 encLn)) fan), (.slice (some ⟨gv, 0, none⟩) nv nv), (tailV 1 a38 o41 ((v28 ++ ([x33.node] : (List Nat))).map i64))]) (.tail _ (.tail _ (.head _))) rfl rfl rfl rfl (Nat.le_of_ble_eq_true rfl) rfl rfl fun h O => ?_; ((conv=>whnf);repeat (first|apply Hs|apply Hx);conv=>whnf)
        refine ⟨.inl rfl, ?_⟩; ((conv=>whnf);repeat (first|apply Hs|apply Hx);conv=>whnf)
        apply Cs;((conv=>whnf);repeat (first|apply Cs|apply Hs|apply Hx);conv=>whnf)
        refine ⟨_, addK (a := v29) (b := 1) rfl rfl hm.1, ?_⟩; ((conv=>whnf);repeat (first|apply Hs|apply Hx);conv=>whnf)
        replace hm := hm.2
        exact ⟨(((v28 ++ ([x33.node] : (List Nat))), (v29 + 1)), (a38, q40, o41)), hm, ⟨ha39, hp42, (Own.selT [((some g36), .cells (flatC (([x33.node] : (List Nat)).map i64)) false), ((some g34), .cells [(i64 x33.node), (i64 x33.pin)] false), ((some gw), .cells [((encL 4 encNode) nodes), ((encL 1 Value.string) names), ((encL 3 encMem) mems), ((encL 1 i64) outs), ((encL 1 (encL 2 encLn)) fan), (.slice (some ⟨gv, 0, none⟩) nv nv), (tailV 1 a38 o41 ((v28 ++ ([x33.node] : (List Nat))).map i64))] false), ((some gv), .cells (flatC (v7.map n8)) false), (a38, .cells (q40 ++ flatC ((v28 ++ ([x33.node] : (List Nat))).map i64)) false)] O [2, 3, 4] (by decide)), trivial⟩, VLe.refl _ _, VLe.refl _ _, VLe.refl _ _, VLe.refl _ _, trivial⟩
       ·replace hm := hm.2 hc
        apply Cs;((conv=>whnf);repeat (first|apply Cs|apply Hs|apply Hx);conv=>whnf)
        exact ⟨(v28, (a25, a26, a27)), hm, ⟨ha30, hp31, O, trivial⟩, trivial⟩
      ·clear hm; rintro ⟨v20, ⟨a17, a18, a19⟩⟩ base h hm ⟨ha21, hp22, O, _⟩
       ((conv=>whnf);repeat (first|apply Cs|apply Hs|apply Hx);conv=>whnf)
       exact ⟨true, v7, v20, a17, a18, a19, hm, rfl, ha21, hp22, O, trivial⟩
def work_gate_wp (nodes : List Node) (names : List ByteArray) (mems : List Memo) (outs : List Nat) (fan : List (List Ln)) (nv : Nat) (vals : List Nat) (wait : List Nat) (n : Nat) (K : (Bool × (List Nat) × (List Nat)) → Prop) : Prop :=
  ∃ x1, nodes[n]? = some x1 ∧ 1 * x1.ins.length ≤ 2 ^ 48 ∧ x1.ins.length < 2 ^ 63 ∧ joinW (α := (List Nat)) (fun k9 => loopW (S := ((List Nat) × Nat)) (fun (v10, v11) nx14 => ((ltN v11 x1.ins.length) = true → ∃ x15, x1.ins[v11]? = some x15 ∧ x15 < nv ∧ ∃ x16, vals[x15]? = some x16 ∧ v11 < x1.ins.length ∧ ∃ x17, v10[v11]? = some x17 ∧ v11 + 1 < 2 ^ 63 ∧ nx14 ((v10.set v11 x16), (v11 + 1))) ∧ ((ltN v11 x1.ins.length) = false → k9 v10)) ((List.replicate x1.ins.length (0 : Nat)), 0)) (fun v6 => n < nv ∧ ∃ x18, vals[n]? = some x18 ∧ x1.ins.length = v6.length ∧ implies_Gate_wp x1.kind x18 v6 (fun r19 => joinW (α := ((List Nat) × (List Nat) × Bool)) (fun k29 => ((!r19.2.2) = true → k29 (vals, wait, true)) ∧ ((!r19.2.2) = false → work_put_wp nodes names mems outs fan nv vals wait n r19.1 (fun (r30, x31, x35) => k29 (x31, x35, (!r30))))) (fun (v21, v25, v26) => (v26 = true → K (false, v21, v25)) ∧ (v26 = false → joinW (α := ((List Nat) × (List Nat))) (fun k45 => loopW (S := ((List Nat) × (List Nat) × Nat)) (fun (v46, v50, v51) nx54 => ((ltN v51 x1.ins.length) = true → ∃ x55, x1.ins[v51]? = some x55 ∧ ∃ x56, r19.2.1[v51]? = some x56 ∧ work_put_wp nodes names mems outs fan nv v46 v50 x55 x56 (fun (r57, x58, x62) => ((!r57) = true → K (false, x58, x62)) ∧ ((!r57) = false → v51 + 1 < 2 ^ 63 ∧ nx54 (x58, x62, (v51 + 1))))) ∧ ((ltN v51 x1.ins.length) = false → k45 (v46, v50))) (v21, v25, 0)) (fun (v38, v42) => K (true, v38, v42))))))
theorem work_gate_walk {nodes : List Node} {names : List ByteArray} {mems : List Memo} {outs : List Nat} {fan : List (List Ln)} {nv : Nat} {vals : List Nat} {wait : List Nat} {n : Nat} {gw : Nat} {gv : Nat} {a : Option Nat} {pre : List Value} {off : Nat} {L : List Slot} {K : (Bool × (List Nat) × (List Nat)) → Prop} (hm : work_gate_wp nodes names mems outs fan nv vals wait n K) {h0 h : Heap} (ha : a = none → wait = []) (hp : pre.length = off) (O : Own vars h0 (((some gw), .cells [((encL 4 encNode) nodes), ((encL 1 Value.string) names), ((encL 3 encMem) mems), ((encL 1 i64) outs), ((encL 1 (encL 2 encLn)) fan), (.slice (some ⟨gv, 0, none⟩) nv nv), (tailV 1 a off (wait.map i64))] false) :: ((some gv), .cells (flatC (vals.map n8)) false) :: (a, .cells (pre ++ flatC (wait.map i64)) false) :: L) h) : ∃ v h', CallD Tryd.prog NG 29 ⟨[(.pointer (some ⟨gw, 0, none⟩)), (i64 n)]⟩ h v h' ∧ ∃ (u0 : Bool) (w0 : (List Nat)) (w4 : (List Nat)) (b1 : Option Nat) (b2 : (List Value)) (b3 : Nat), K (u0, w0, w4) ∧ v = (Value.bool u0) ∧ (b1 = none → w4 = []) ∧ (b2.length = b3) ∧ Own vars h0 (((some gw), .cells [((encL 4 encNode) nodes), ((encL 1 Value.string) names), ((encL 3 encMem) mems), ((encL 1 i64) outs), ((encL 1 (encL 2 encLn)) fan), (.slice (some ⟨gv, 0, none⟩) nv nv), (tailV 1 b1 b3 (w4.map i64))] false) :: ((some gv), .cells (flatC (w0.map n8)) false) :: (b1, .cells (b2 ++ flatC (w4.map i64)) false) :: L) h' ∧ True := by
  unfold work_gate_wp at hm
  refine fnG hM Tryd.func29 rfl (hP _ _ rfl Tryd.func29) (Nat.le_of_ble_eq_true rfl) (Q := fun v h' => ∃ (u0 : Bool) (w0 : (List Nat)) (w4 : (List Nat)) (b1 : Option Nat) (b2 : (List Value)) (b3 : Nat), K (u0, w0, w4) ∧ v = (Value.bool u0) ∧ (b1 = none → w4 = []) ∧ (b2.length = b3) ∧ Own vars h0 (((some gw), .cells [((encL 4 encNode) nodes), ((encL 1 Value.string) names), ((encL 3 encMem) mems), ((encL 1 i64) outs), ((encL 1 (encL 2 encLn)) fan), (.slice (some ⟨gv, 0, none⟩) nv nv), (tailV 1 b1 b3 (w4.map i64))] false) :: ((some gv), .cells (flatC (w0.map n8)) false) :: (b1, .cells (b2 ++ flatC (w4.map i64)) false) :: L) h' ∧ True) ?_; conv=>whnf
  apply Cs;((conv=>whnf);repeat (first|apply Cs|apply Hs|apply Hx);conv=>whnf)
  refine ⟨_, loadK rfl (O.at (.head _)) rfl rfl, ?_⟩; ((conv=>whnf);repeat (first|apply Hs|apply Hx);conv=>whnf)
  obtain ⟨x1, hx1, hm⟩ := hm
  refine flAtM (s := 4) (enc := encNode) (j := n) rfl rfl rfl rfl hx1 ?_; ((conv=>whnf);repeat (first|apply Hs|apply Hx);conv=>whnf)
  refine ⟨_, (rfl : aread _ _ _ _ = some _), ?_⟩; ((conv=>whnf);repeat (first|apply Hs|apply Hx);conv=>whnf)
  refine O.new (anew_alloc (l := [(n8 0), (.slice none 0 0), (i64 0), (i64 0)]) rfl rfl rfl) fun g2 h O => ?_; ((conv=>whnf);repeat (first|apply Hs|apply Hx);conv=>whnf)
  refine O.store (n := 4) (cs' := [(n8 x1.kind), ((encL 1 i64) x1.ins), (i64 x1.mem), (i64 x1.bit)]) (.head _) rfl rfl rfl rfl (Nat.le_of_ble_eq_true rfl) rfl rfl fun h O => ?_; ((conv=>whnf);repeat (first|apply Cs|apply Hs|apply Hx);conv=>whnf)
  refine ⟨_, loadK rfl (O.at (.head _)) rfl rfl, ?_⟩; ((conv=>whnf);repeat (first|apply Hs|apply Hx);conv=>whnf)
  refine lenM (s := 1) (enc := i64) (l := x1.ins) rfl rfl ?_; ((conv=>whnf);repeat (first|apply Hs|apply Hx);conv=>whnf)
  refine O.makeL (enc := n8) (z := 0) (b := 1) (s := 1) (n := x1.ins.length) rfl rfl rfl rfl rfl (by decide) (by kernel_rfl) rfl rfl hm.1 hm.2.1 fun g4 h O => ?_; ((conv=>whnf);repeat (first|apply Hs|apply Hx);conv=>whnf)
  replace hm := hm.2.2
  refine CodeS.joinWS hm (nn := 86) (σ := (List Nat) × Unit) (fun s => s.1) (fun (v6, _) h => (a = none → wait = []) ∧ (pre.length = off) ∧ Own vars h0 (((some gw), .cells [((encL 4 encNode) nodes), ((encL 1 Value.string) names), ((encL 3 encMem) mems), ((encL 1 i64) outs), ((encL 1 (encL 2 encLn)) fan), (.slice (some ⟨gv, 0, none⟩) nv nv), (tailV 1 a off (wait.map i64))] false) :: ((some gv), .cells (flatC (vals.map n8)) false) :: (a, .cells (pre ++ flatC (wait.map i64)) false) :: ((some g2), .cells [(n8 x1.kind), ((encL 1 i64) x1.ins), (i64 x1.mem), (i64 x1.bit)] false) :: ((some g4), .cells (flatC (v6.map n8)) false) :: L) h ∧ True) (fun (v6, _) => [(0, (.pointer (some ⟨gw, 0, none⟩))), (1, (i64 n)), (5, (.pointer (some ⟨g2, 0, none⟩))), (6, (.slice (some ⟨g4, 0, none⟩) x1.ins.length x1.ins.length))]) rfl (fun hm' => ?_) ?_
  ·replace hm := hm'
   apply Cs;((conv=>whnf);repeat (first|apply Cs|apply Hs|apply Hx);conv=>whnf)
   refine ⟨_, loadK rfl (O.at (.tail _ (.head _))) rfl rfl, ?_⟩; ((conv=>whnf);repeat (first|apply Hs|apply Hx);conv=>whnf)
   refine lenM (s := 1) (enc := i64) (l := x1.ins) rfl rfl ?_; ((conv=>whnf);repeat (first|apply Cs|apply Hs|apply Hx);conv=>whnf)
   refine loopWK hM (by kernel_rfl) (nn := 86) (S := ((List Nat) × Nat)) (σ := ((List Nat) × Nat) × Unit) (fun s => s.1) (fun ((v10, v11), _) h => (a = none → wait = []) ∧ (pre.length = off) ∧ Own vars h0 (((some gw), .cells [((encL 4 encNode) nodes), ((encL 1 Value.string) names), ((encL 3 encMem) mems), ((encL 1 i64) outs), ((encL 1 (encL 2 encLn)) fan), (.slice (some ⟨gv, 0, none⟩) nv nv), (tailV 1 a off (wait.map i64))] false) :: ((some gv), .cells (flatC (vals.map n8)) false) :: (a, .cells (pre ++ flatC (wait.map i64)) false) :: ((some g2), .cells [(n8 x1.kind), ((encL 1 i64) x1.ins), (i64 x1.mem), (i64 x1.bit)] false) :: ((some g4), .cells (flatC (v10.map n8)) false) :: L) h ∧ True) (fun ((v10, v11), _) => [(0, (.pointer (some ⟨gw, 0, none⟩))), (1, (i64 n)), (5, (.pointer (some ⟨g2, 0, none⟩))), (6, (.slice (some ⟨g4, 0, none⟩) x1.ins.length x1.ins.length)), (27, ((encL 1 i64) x1.ins)), (28, (i64 x1.ins.length)), (29, (i64 v11))]) rfl (((List.replicate x1.ins.length (0 : Nat)), 0), ()) hm ⟨ha, hp, (Own.selT [((some g4), .cells (flatC ((List.replicate x1.ins.length (0 : Nat)).map n8)) false), ((some g2), .cells [(n8 x1.kind), ((encL 1 i64) x1.ins), (i64 x1.mem), (i64 x1.bit)] false), ((some gw), .cells [((encL 4 encNode) nodes), ((encL 1 Value.string) names), ((encL 3 encMem) mems), ((encL 1 i64) outs), ((encL 1 (encL 2 encLn)) fan), (.slice (some ⟨gv, 0, none⟩) nv nv), (tailV 1 a off (wait.map i64))] false), ((some gv), .cells (flatC (vals.map n8)) false), (a, .cells (pre ++ flatC (wait.map i64)) false)] O [2, 3, 4, 1, 0] (by decide)), trivial⟩ ⟨VLe.refl _ _, VLe.refl _ _, VLe.refl _ _, VLe.refl _ _, VLe.refl _ _, VLe.refl _ _, VLe.refl _ _, trivial⟩ ?_
   clear hm; rintro ⟨⟨v10, v11⟩, _⟩ nx14 base h hm ⟨ha12, hp13, O, _⟩
   ((conv=>whnf);repeat (first|apply Cs|apply Hs|apply Hx);conv=>whnf)
   refine ⟨_, rfl, fun hc => ?_, fun hc => ?_⟩
   ·replace hm := hm.1 hc
    apply Cs;((conv=>whnf);repeat (first|apply Cs|apply Hs|apply Hx);conv=>whnf)
    obtain ⟨x15, hx15, hm⟩ := hm
    refine flAtM (s := 1) (enc := i64) (j := v11) rfl rfl rfl rfl hx15 ?_; ((conv=>whnf);repeat (first|apply Hs|apply Hx);conv=>whnf)
    refine ⟨_, (rfl : aread _ _ _ _ = some _), ?_⟩; ((conv=>whnf);repeat (first|apply Cs|apply Hs|apply Hx);conv=>whnf)
    refine ⟨_, loadK rfl (O.at (.head _)) rfl rfl, ?_⟩; ((conv=>whnf);repeat (first|apply Hs|apply Hx);conv=>whnf)
    obtain ⟨hj, x16, hx16, hm⟩ := hm
    refine indexK (s := 1) (j := x15) rfl rfl rfl rfl hj ?_; ((conv=>whnf);repeat (first|apply Hs|apply Hx);conv=>whnf)
    refine ⟨_, loadK rfl (O.at (.tail _ (.head _))) rfl (cell_map (enc := n8) (s := 1) (k := 0) (fun _ => rfl) hx16 rfl), ?_⟩; ((conv=>whnf);repeat (first|apply Hs|apply Hx);conv=>whnf)
    obtain ⟨hj, x17, hx17, hm⟩ := hm
    refine indexK (s := 1) (j := v11) rfl rfl rfl rfl hj ?_; ((conv=>whnf);repeat (first|apply Hs|apply Hx);conv=>whnf)
    refine O.store (n := 1) (.tail _ (.tail _ (.tail _ (.tail _ (.head _))))) rfl rfl rfl rfl (el_le (enc := n8) (s := 1) (k := 0) (n := 1) (fun _ => rfl) (lt_of_get hx17) (Nat.le_of_ble_eq_true rfl)) rfl (splice_all (enc := n8) (s := 1) (fun _ => rfl) (lt_of_get hx17) (x := x16) rfl) fun h O => ?_; ((conv=>whnf);repeat (first|apply Cs|apply Hs|apply Hx);conv=>whnf)
    refine ⟨_, addK (a := v11) (b := 1) rfl rfl hm.1, ?_⟩; ((conv=>whnf);repeat (first|apply Hs|apply Hx);conv=>whnf)
    replace hm := hm.2
    exact ⟨(((v10.set v11 x16), (v11 + 1)), ()), hm, ⟨ha12, hp13, O, trivial⟩, VLe.refl _ _, VLe.refl _ _, VLe.refl _ _, VLe.refl _ _, VLe.refl _ _, VLe.refl _ _, VLe.refl _ _, trivial⟩
   ·replace hm := hm.2 hc
    apply Cs;((conv=>whnf);repeat (first|apply Cs|apply Hs|apply Hx);conv=>whnf)
    exact ⟨(v10, ()), hm, ⟨ha12, hp13, O, trivial⟩, VLe.refl _ _, VLe.refl _ _, VLe.refl _ _, VLe.refl _ _, trivial⟩
  ·clear hm; rintro ⟨v6, _⟩ base h hm ⟨ha7, hp8, O, _⟩
   ((conv=>whnf);repeat (first|apply Cs|apply Hs|apply Hx);conv=>whnf)
   refine ⟨_, loadK rfl (O.at (.tail _ (.tail _ (.tail _ (.head _))))) rfl rfl, ?_⟩; ((conv=>whnf);repeat (first|apply Hs|apply Hx);conv=>whnf)
   refine ⟨.inl rfl, ?_⟩; ((conv=>whnf);repeat (first|apply Hs|apply Hx);conv=>whnf)
   refine ⟨_, loadK rfl (O.at (.head _)) rfl rfl, ?_⟩; ((conv=>whnf);repeat (first|apply Hs|apply Hx);conv=>whnf)
   first | refine ⟨.inr (.inr (loadK rfl (O.at (.head _)) rfl rfl)), ?_⟩ | refine ⟨.inr (.inl (by kernel_rfl)), ?_⟩
   ((conv=>whnf);repeat (first|apply Cs|apply Hs|apply Hx);conv=>whnf)
   obtain ⟨hj, x18, hx18, hm⟩ := hm
   refine indexK (s := 1) (j := n) rfl rfl rfl rfl hj ?_; ((conv=>whnf);repeat (first|apply Hs|apply Hx);conv=>whnf)
   refine ⟨_, loadK rfl (O.at (.tail _ (.head _))) rfl (cell_map (enc := n8) (s := 1) (k := 0) (fun _ => rfl) hx18 rfl), ?_⟩; ((conv=>whnf);repeat (first|apply Hs|apply Hx);conv=>whnf)
   refine ⟨.inl rfl, ?_⟩; ((conv=>whnf);repeat (first|apply Hs|apply Hx);conv=>whnf)
   obtain ⟨hn20, hm⟩ := hm
   refine O.useL (fun _ hb => implies_Gate_walk hm hb) (.tail _ (.tail _ (.tail _ (.tail _ (.head _))))) hn20 (fun _ => rfl) (i := 2) rfl (by kernel_rfl) (fun h2 q => (LLe.cons (VLe.refl _ _) (LLe.cons (VLe.refl _ _) (LLe.cons (q) (LLe.nil _))))) (fun r19 h hm' O => ?_); replace hm := hm'; ((conv=>whnf);repeat (first|apply Hs|apply Hx);conv=>whnf)
   refine ⟨.inr (by kernel_rfl), ?_⟩; ((conv=>whnf);repeat (first|apply Hs|apply Hx);conv=>whnf)
   apply Cs;conv=>whnf
   refine CodeS.joinWS hm (nn := 86) (σ := ((List Nat) × (List Nat) × Bool) × (Option Nat × (List Value) × Nat)) (fun s => s.1) (fun ((v21, v25, v26), (a22, a23, a24)) h => (a22 = none → v25 = []) ∧ (a23.length = a24) ∧ Own vars h0 (((some gw), .cells [((encL 4 encNode) nodes), ((encL 1 Value.string) names), ((encL 3 encMem) mems), ((encL 1 i64) outs), ((encL 1 (encL 2 encLn)) fan), (.slice (some ⟨gv, 0, none⟩) nv nv), (tailV 1 a22 a24 (v25.map i64))] false) :: ((some gv), .cells (flatC (v21.map n8)) false) :: (a22, .cells (a23 ++ flatC (v25.map i64)) false) :: ((some g2), .cells [(n8 x1.kind), ((encL 1 i64) x1.ins), (i64 x1.mem), (i64 x1.bit)] false) :: L) h ∧ True) (fun ((v21, v25, v26), (a22, a23, a24)) => [(0, (.pointer (some ⟨gw, 0, none⟩))), (5, (.pointer (some ⟨g2, 0, none⟩))), (10, ((encL 1 n8) r19.2.1)), (68, (.bool v26))]) rfl (fun hm' => ?_) ?_
   ·replace hm := hm'
    apply Cs;((conv=>whnf);repeat (first|apply Cs|apply Hs|apply Hx);conv=>whnf)
    refine ⟨_, rfl, fun hc => ?_, fun hc => ?_⟩
    ·replace hm := hm.1 hc; ((conv=>whnf);repeat (first|apply Hs|apply Hx);conv=>whnf)
     exact ⟨((vals, wait, true), (a, pre, off)), hm, ⟨ha7, hp8, (Own.selT [((some gw), .cells [((encL 4 encNode) nodes), ((encL 1 Value.string) names), ((encL 3 encMem) mems), ((encL 1 i64) outs), ((encL 1 (encL 2 encLn)) fan), (.slice (some ⟨gv, 0, none⟩) nv nv), (tailV 1 a off (wait.map i64))] false), ((some gv), .cells (flatC (vals.map n8)) false), (a, .cells (pre ++ flatC (wait.map i64)) false), ((some g2), .cells [(n8 x1.kind), ((encL 1 i64) x1.ins), (i64 x1.mem), (i64 x1.bit)] false), ((some g4), .cells (flatC (v6.map n8)) true)] O [0, 1, 2, 3] (by decide)), trivial⟩, VLe.refl _ _, VLe.refl _ _, VLe.refl _ _, VLe.refl _ _, trivial⟩
    ·replace hm := hm.2 hc; ((conv=>whnf);repeat (first|apply Hs|apply Hx);conv=>whnf)
     obtain ⟨_, h, hcall, r30, x31, x35, a32, a33, a34, hm, rfl, ha36, hp37, O, _⟩ := work_put_walk hm ha7 hp8 O
     refine ⟨_, _, hcall, ?_⟩; ((conv=>whnf);repeat (first|apply Hs|apply Hx);conv=>whnf)
     exact ⟨((x31, x35, (!r30)), (a32, a33, a34)), hm, ⟨ha36, hp37, (Own.selT [((some gw), .cells [((encL 4 encNode) nodes), ((encL 1 Value.string) names), ((encL 3 encMem) mems), ((encL 1 i64) outs), ((encL 1 (encL 2 encLn)) fan), (.slice (some ⟨gv, 0, none⟩) nv nv), (tailV 1 a32 a34 (x35.map i64))] false), ((some gv), .cells (flatC (x31.map n8)) false), (a32, .cells (a33 ++ flatC (x35.map i64)) false), ((some g2), .cells [(n8 x1.kind), ((encL 1 i64) x1.ins), (i64 x1.mem), (i64 x1.bit)] false), ((some g4), .cells (flatC (v6.map n8)) true)] O [0, 1, 2, 3] (by decide)), trivial⟩, VLe.refl _ _, VLe.refl _ _, VLe.refl _ _, VLe.refl _ _, trivial⟩
   ·clear hm; rintro ⟨⟨v21, v25, v26⟩, ⟨a22, a23, a24⟩⟩ base h hm ⟨ha27, hp28, O, _⟩
    ((conv=>whnf);repeat (first|apply Cs|apply Hs|apply Hx);conv=>whnf)
    refine ⟨_, rfl, fun hc => ?_, fun hc => ?_⟩
    ·replace hm := hm.1 hc
     apply Cs;((conv=>whnf);repeat (first|apply Cs|apply Hs|apply Hx);conv=>whnf)
     exact ⟨false, v21, v25, a22, a23, a24, hm, rfl, ha27, hp28, (Own.selT [((some gw), .cells [((encL 4 encNode) nodes), ((encL 1 Value.string) names), ((encL 3 encMem) mems), ((encL 1 i64) outs), ((encL 1 (encL 2 encLn)) fan), (.slice (some ⟨gv, 0, none⟩) nv nv), (tailV 1 a22 a24 (v25.map i64))] false), ((some gv), .cells (flatC (v21.map n8)) false), (a22, .cells (a23 ++ flatC (v25.map i64)) false), ((some g2), .cells [(n8 x1.kind), ((encL 1 i64) x1.ins), (i64 x1.mem), (i64 x1.bit)] false)] O [0, 1, 2] (by decide)), trivial⟩
    ·replace hm := hm.2 hc
     apply Cs;conv=>whnf
     refine CodeS.joinWS hm (nn := 86) (σ := ((List Nat) × (List Nat)) × (Option Nat × (List Value) × Nat)) (fun s => s.1) (fun ((v38, v42), (a39, a40, a41)) h => (a39 = none → v42 = []) ∧ (a40.length = a41) ∧ Own vars h0 (((some gw), .cells [((encL 4 encNode) nodes), ((encL 1 Value.string) names), ((encL 3 encMem) mems), ((encL 1 i64) outs), ((encL 1 (encL 2 encLn)) fan), (.slice (some ⟨gv, 0, none⟩) nv nv), (tailV 1 a39 a41 (v42.map i64))] false) :: ((some gv), .cells (flatC (v38.map n8)) false) :: (a39, .cells (a40 ++ flatC (v42.map i64)) false) :: L) h ∧ True) (fun ((v38, v42), (a39, a40, a41)) => []) rfl (fun hm' => ?_) ?_
     ·replace hm := hm'
      apply Cs;((conv=>whnf);repeat (first|apply Cs|apply Hs|apply Hx);conv=>whnf)
      refine ⟨_, loadK rfl (O.at (.tail _ (.tail _ (.tail _ (.head _))))) rfl rfl, ?_⟩; ((conv=>whnf);repeat (first|apply Hs|apply Hx);conv=>whnf)
      refine lenM (s := 1) (enc := i64) (l := x1.ins) rfl rfl ?_; ((conv=>whnf);repeat (first|apply Cs|apply Hs|apply Hx);conv=>whnf)
      refine loopWK hM (by kernel_rfl) (nn := 86) (S := ((List Nat) × (List Nat) × Nat)) (σ := ((List Nat) × (List Nat) × Nat) × (Option Nat × (List Value) × Nat)) (fun s => s.1) (fun ((v46, v50, v51), (a47, a48, a49)) h => (a47 = none → v50 = []) ∧ (a48.length = a49) ∧ Own vars h0 (((some gw), .cells [((encL 4 encNode) nodes), ((encL 1 Value.string) names), ((encL 3 encMem) mems), ((encL 1 i64) outs), ((encL 1 (encL 2 encLn)) fan), (.slice (some ⟨gv, 0, none⟩) nv nv), (tailV 1 a47 a49 (v50.map i64))] false) :: ((some gv), .cells (flatC (v46.map n8)) false) :: (a47, .cells (a48 ++ flatC (v50.map i64)) false) :: L) h ∧ True) (fun ((v46, v50, v51), (a47, a48, a49)) => [(0, (.pointer (some ⟨gw, 0, none⟩))), (10, ((encL 1 n8) r19.2.1)), (70, ((encL 1 i64) x1.ins)), (71, (i64 x1.ins.length)), (72, (i64 v51))]) rfl ((v21, v25, 0), (a22, a23, a24)) hm ⟨ha27, hp28, (Own.selT [((some gw), .cells [((encL 4 encNode) nodes), ((encL 1 Value.string) names), ((encL 3 encMem) mems), ((encL 1 i64) outs), ((encL 1 (encL 2 encLn)) fan), (.slice (some ⟨gv, 0, none⟩) nv nv), (tailV 1 a22 a24 (v25.map i64))] false), ((some gv), .cells (flatC (v21.map n8)) false), (a22, .cells (a23 ++ flatC (v25.map i64)) false), ((some g2), .cells [(n8 x1.kind), ((encL 1 i64) x1.ins), (i64 x1.mem), (i64 x1.bit)] false)] O [0, 1, 2] (by decide)), trivial⟩ ⟨VLe.refl _ _, VLe.refl _ _, VLe.refl _ _, VLe.refl _ _, VLe.refl _ _, trivial⟩ ?_
      clear hm; rintro ⟨⟨v46, v50, v51⟩, ⟨a47, a48, a49⟩⟩ nx54 base h hm ⟨ha52, hp53, O, _⟩
      ((conv=>whnf);repeat (first|apply Cs|apply Hs|apply Hx);conv=>whnf)
      refine ⟨_, rfl, fun hc => ?_, fun hc => ?_⟩
      ·replace hm := hm.1 hc
       apply Cs;((conv=>whnf);repeat (first|apply Cs|apply Hs|apply Hx);conv=>whnf)
       obtain ⟨x55, hx55, hm⟩ := hm
       refine flAtM (s := 1) (enc := i64) (j := v51) rfl rfl rfl rfl hx55 ?_; ((conv=>whnf);repeat (first|apply Hs|apply Hx);conv=>whnf)
       refine ⟨_, (rfl : aread _ _ _ _ = some _), ?_⟩; ((conv=>whnf);repeat (first|apply Cs|apply Hs|apply Hx);conv=>whnf)
       obtain ⟨x56, hx56, hm⟩ := hm
       refine flAtM (s := 1) (enc := n8) (j := v51) rfl rfl rfl rfl hx56 ?_; ((conv=>whnf);repeat (first|apply Hs|apply Hx);conv=>whnf)
       refine ⟨_, (rfl : aread _ _ _ _ = some _), ?_⟩; ((conv=>whnf);repeat (first|apply Hs|apply Hx);conv=>whnf)
       obtain ⟨_, h, hcall, r57, x58, x62, a59, a60, a61, hm, rfl, ha63, hp64, O, _⟩ := work_put_walk hm ha52 hp53 O
       refine ⟨_, _, hcall, ?_⟩; ((conv=>whnf);repeat (first|apply Cs|apply Hs|apply Hx);conv=>whnf)
       refine ⟨_, rfl, fun hc => ?_, fun hc => ?_⟩
       ·replace hm := hm.1 hc
        apply Cs;((conv=>whnf);repeat (first|apply Cs|apply Hs|apply Hx);conv=>whnf)
        exact ⟨false, x58, x62, a59, a60, a61, hm, rfl, ha63, hp64, O, trivial⟩
       ·replace hm := hm.2 hc
        apply Cs;((conv=>whnf);repeat (first|apply Cs|apply Hs|apply Hx);conv=>whnf)
        refine ⟨_, addK (a := v51) (b := 1) rfl rfl hm.1, ?_⟩; ((conv=>whnf);repeat (first|apply Hs|apply Hx);conv=>whnf)
        replace hm := hm.2
        exact ⟨((x58, x62, (v51 + 1)), (a59, a60, a61)), hm, ⟨ha63, hp64, O, trivial⟩, VLe.refl _ _, VLe.refl _ _, VLe.refl _ _, VLe.refl _ _, VLe.refl _ _, trivial⟩
      ·replace hm := hm.2 hc
       apply Cs;((conv=>whnf);repeat (first|apply Cs|apply Hs|apply Hx);conv=>whnf)
       exact ⟨((v46, v50), (a47, a48, a49)), hm, ⟨ha52, hp53, O, trivial⟩, trivial⟩
     ·clear hm; rintro ⟨⟨v38, v42⟩, ⟨a39, a40, a41⟩⟩ base h hm ⟨ha43, hp44, O, _⟩
      ((conv=>whnf);repeat (first|apply Cs|apply Hs|apply Hx);conv=>whnf)
      exact ⟨true, v38, v42, a39, a40, a41, hm, rfl, ha43, hp44, O, trivial⟩
def implies_Close_wp (p0 : Circ) (p1 : (List Asg)) (K : ((List Nat) × Bool × Nat) → Prop) : Prop :=
  implies_Plain_wp p0 (fun r1 => ((neN r1 0) = true → K ([], false, r1)) ∧ ((neN r1 0) = false → joinW (α := Unit) (fun k2 => loopW (S := Nat) (fun v3 nx4 => ((ltN v3 p1.length) = true → ∃ x5, p1[v3]? = some x5 ∧ joinW (α := Bool) (fun k9 => ((ltN x5.net 0) = true → k9 true) ∧ ((ltN x5.net 0) = false → ((!ltN x5.net p0.nodes.length) = true → k9 true) ∧ ((!ltN x5.net p0.nodes.length) = false → logic_Known_wp x5.value (fun r10 => k9 (!r10))))) (fun v8 => (v8 = true → K ([], false, 1)) ∧ (v8 = false → v3 + 1 < 2 ^ 63 ∧ nx4 (v3 + 1)))) ∧ ((ltN v3 p1.length) = false → k2 ())) 0) (fun _ => netlists_Fanout_wp p0 (fun r11 => 1 * p0.nodes.length ≤ 2 ^ 48 ∧ p0.nodes.length < 2 ^ 63 ∧ joinW (α := ((List Nat) × (List Nat))) (fun k24 => loopW (S := ((List Nat) × (List Nat) × Nat)) (fun (v25, v29, v30) nx33 => ((ltN v30 p0.nodes.length) = true → v30 < p0.nodes.length ∧ ∃ x34, v25[v30]? = some x34 ∧ (v29.length + ([v30] : (List Nat)).length) * 8 ≤ 2 ^ 47 ∧ v30 + 1 < 2 ^ 63 ∧ nx33 ((v25.set v30 2), (v29 ++ ([v30] : (List Nat))), (v30 + 1))) ∧ ((ltN v30 p0.nodes.length) = false → k24 (v25, v29))) ((List.replicate p0.nodes.length (0 : Nat)), ([] : List Nat), 0)) (fun (v17, v21) => joinW (α := ((List Nat) × (List Nat))) (fun k47 => loopW (S := ((List Nat) × (List Nat) × Nat)) (fun (v48, v52, v53) nx56 => ((ltN v53 p1.length) = true → ∃ x57, p1[v53]? = some x57 ∧ work_put_wp p0.nodes p0.names p0.mems p0.outs r11 p0.nodes.length v48 v52 x57.net x57.value (fun (r60, x61, x65) => ((!r60) = true → K ([], false, 0)) ∧ ((!r60) = false → v53 + 1 < 2 ^ 63 ∧ nx56 (x61, x65, (v53 + 1))))) ∧ ((ltN v53 p1.length) = false → k47 (v48, v52))) (v17, v21, 0)) (fun (v40, v44) => joinW (α := ((List Nat) × (List Nat))) (fun k75 => loopW (S := ((List Nat) × (List Nat))) (fun (v76, v80) nx83 => ((ltN 0 v80.length) = true → ∃ x84, v80[0]? = some x84 ∧ 1 ≤ v80.length ∧ ∃ x87, p0.nodes[x84]? = some x87 ∧ implies_free_wp x87.kind (fun r88 => (r88 = true → nx83 (v76, (v80.drop 1))) ∧ (r88 = false → work_gate_wp p0.nodes p0.names p0.mems p0.outs r11 p0.nodes.length v76 (v80.drop 1) x84 (fun (r89, x90, x94) => ((!r89) = true → K ([], false, 0)) ∧ ((!r89) = false → nx83 (x90, x94)))))) ∧ ((ltN 0 v80.length) = false → k75 (v76, v80))) (v40, v44)) (fun (v68, v72) => p0.nodes.length = v68.length ∧ K (v68, true, 0))))))))
theorem implies_Close_walk {p0 : Circ} {p1 : (List Asg)} {K : ((List Nat) × Bool × Nat) → Prop} (hm : implies_Close_wp p0 p1 K) {h0 : Heap} (hB : HasB vars h0) : ∃ r, K r ∧ CallD Tryd.prog NG 9 ⟨[encCirc p0, (encL 2 encAsg) p1]⟩ h0 ((fun (r : ((List Nat) × Bool × Nat)) => Value.tuple ⟨[(encL 1 n8) (r.1), Value.bool (r.2.1), i64 (r.2.2)]⟩) r) h0 := by
  unfold implies_Close_wp at hm
  refine fnW hM Tryd.func9 rfl (hP _ _ rfl Tryd.func9) (Nat.le_of_ble_eq_true rfl) hB (enc := (fun (r : ((List Nat) × Bool × Nat)) => Value.tuple ⟨[(encL 1 n8) (r.1), Value.bool (r.2.1), i64 (r.2.2)]⟩)) (fun r => PureV.tup (AllPure.cons (pureL (fun _ => AllPure.cons (PureV.flat rfl) AllPure.nil)) (AllPure.cons (PureV.flat rfl) (AllPure.cons (PureV.flat rfl) (AllPure.nil))))) fun O => ?_; conv=>whnf
  apply Cs;((conv=>whnf);repeat (first|apply Cs|apply Hs|apply Hx);conv=>whnf)
  refine NewG.frz rfl ?_; ((conv=>whnf);repeat (first|apply Cs|apply Hs|apply Hx);conv=>whnf)
  refine ⟨_, (rfl : aread _ _ _ _ = some _), ?_⟩; ((conv=>whnf);repeat (first|apply Hs|apply Hx);conv=>whnf)
  obtain ⟨r1, hm, hcall⟩ := implies_Plain_walk hm O.has
  refine ⟨_, _, hcall, ?_⟩; ((conv=>whnf);repeat (first|apply Cs|apply Hs|apply Hx);conv=>whnf)
  refine ⟨_, rfl, fun hc => ?_, fun hc => ?_⟩
  ·replace hm := hm.1 hc
   apply Cs;((conv=>whnf);repeat (first|apply Cs|apply Hs|apply Hx);conv=>whnf)
   exact ⟨([], false, r1), hm, O.ext, fun h2 F => VLe.tup (LLe.cons (VLe.nil _ _) (LLe.cons (VLe.refl _ _) (LLe.cons (VLe.refl _ _) (LLe.nil _))))⟩
  ·replace hm := hm.2 hc
   apply Cs;conv=>whnf
   refine CodeS.joinWS hm (nn := 125) (σ := Unit × Unit) (fun s => s.1) (fun (_, _) h => Own vars h0 [] h ∧ True) (fun (_, _) => [(1, ((encL 2 encAsg) p1)), (2, (FP (encCirc p0)))]) rfl (fun hm' => ?_) ?_
   ·replace hm := hm'
    apply Cs;((conv=>whnf);repeat (first|apply Cs|apply Hs|apply Hx);conv=>whnf)
    refine lenM (s := 2) (enc := encAsg) (l := p1) rfl rfl ?_; ((conv=>whnf);repeat (first|apply Cs|apply Hs|apply Hx);conv=>whnf)
    refine loopWK hM (by kernel_rfl) (nn := 125) (S := Nat) (σ := Nat × Unit) (fun s => s.1) (fun (v3, _) h => Own vars h0 [] h ∧ True) (fun (v3, _) => [(1, ((encL 2 encAsg) p1)), (2, (FP (encCirc p0))), (20, ((encL 2 encAsg) p1)), (21, (i64 p1.length)), (22, (i64 v3))]) rfl (0, ()) hm ⟨O, trivial⟩ ⟨VLe.refl _ _, VLe.refl _ _, VLe.refl _ _, VLe.refl _ _, VLe.refl _ _, trivial⟩ ?_
    clear hm; rintro ⟨v3, _⟩ nx4 base h hm ⟨O, _⟩
    ((conv=>whnf);repeat (first|apply Cs|apply Hs|apply Hx);conv=>whnf)
    refine ⟨_, rfl, fun hc => ?_, fun hc => ?_⟩
    ·replace hm := hm.1 hc
     apply Cs;((conv=>whnf);repeat (first|apply Cs|apply Hs|apply Hx);conv=>whnf)
     obtain ⟨x5, hx5, hm⟩ := hm
     refine flAtM (s := 2) (enc := encAsg) (j := v3) rfl rfl rfl rfl hx5 ?_; ((conv=>whnf);repeat (first|apply Hs|apply Hx);conv=>whnf)
     refine ⟨_, (rfl : aread _ _ _ _ = some _), ?_⟩; ((conv=>whnf);repeat (first|apply Hs|apply Hx);conv=>whnf)
     refine O.new (anew_alloc (l := [(i64 0), (n8 0)]) rfl rfl rfl) fun g6 h O => ?_; ((conv=>whnf);repeat (first|apply Hs|apply Hx);conv=>whnf)
     refine O.store (n := 2) (cs' := [(i64 x5.net), (n8 x5.value)]) (.head _) rfl rfl rfl rfl (Nat.le_of_ble_eq_true rfl) rfl rfl fun h O => ?_; ((conv=>whnf);repeat (first|apply Hs|apply Hx);conv=>whnf)
     refine CodeS.joinWS hm (nn := 125) (σ := Bool × Unit) (fun s => s.1) (fun (v8, _) h => Own vars h0 [] h ∧ True) (fun (v8, _) => [(1, ((encL 2 encAsg) p1)), (2, (FP (encCirc p0))), (20, ((encL 2 encAsg) p1)), (21, (i64 p1.length)), (22, (i64 v3)), (42, (.bool v8))]) rfl (fun hm' => ?_) ?_
     ·replace hm := hm'
      apply Cs;((conv=>whnf);repeat (first|apply Cs|apply Hs|apply Hx);conv=>whnf)
      refine ⟨_, loadK rfl (O.at (.head _)) rfl rfl, ?_⟩; ((conv=>whnf);repeat (first|apply Hs|apply Hx);conv=>whnf)
      refine ⟨_, rfl, fun hc => ?_, fun hc => ?_⟩
      ·replace hm := hm.1 hc; ((conv=>whnf);repeat (first|apply Hs|apply Hx);conv=>whnf)
       refine ⟨true, rfl, fun _ => ?_, (fun hc => nomatch hc)⟩; ((conv=>whnf);repeat (first|apply Hs|apply Hx);conv=>whnf)
       exact ⟨(true, ()), hm, ⟨(O.sel [] (by decide)), trivial⟩, VLe.refl _ _, VLe.refl _ _, VLe.refl _ _, VLe.refl _ _, VLe.refl _ _, VLe.refl _ _, trivial⟩
      ·replace hm := hm.2 hc; ((conv=>whnf);repeat (first|apply Hs|apply Hx);conv=>whnf)
       refine ⟨_, loadK rfl (O.at (.head _)) rfl rfl, ?_⟩; ((conv=>whnf);repeat (first|apply Hs|apply Hx);conv=>whnf)
       refine ⟨_, (rfl : aread _ _ _ _ = some _), ?_⟩; ((conv=>whnf);repeat (first|apply Hs|apply Hx);conv=>whnf)
       refine lenM (s := 4) (enc := encNode) (l := p0.nodes) rfl rfl ?_; ((conv=>whnf);repeat (first|apply Hs|apply Hx);conv=>whnf)
       refine ⟨_, rfl, fun hc => ?_, fun hc => ?_⟩
       ·replace hm := hm.1 hc; ((conv=>whnf);repeat (first|apply Hs|apply Hx);conv=>whnf)
        exact ⟨(true, ()), hm, ⟨(O.sel [] (by decide)), trivial⟩, VLe.refl _ _, VLe.refl _ _, VLe.refl _ _, VLe.refl _ _, VLe.refl _ _, VLe.refl _ _, trivial⟩
       ·replace hm := hm.2 hc; ((conv=>whnf);repeat (first|apply Hs|apply Hx);conv=>whnf)
        refine ⟨_, loadK rfl (O.at (.head _)) rfl rfl, ?_⟩; ((conv=>whnf);repeat (first|apply Hs|apply Hx);conv=>whnf)
        obtain ⟨r10, hm, hcall⟩ := logic_Known_walk hm O.has
        refine ⟨_, _, hcall, ?_⟩; ((conv=>whnf);repeat (first|apply Hs|apply Hx);conv=>whnf)
        exact ⟨((!r10), ()), hm, ⟨(O.sel [] (by decide)), trivial⟩, VLe.refl _ _, VLe.refl _ _, VLe.refl _ _, VLe.refl _ _, VLe.refl _ _, VLe.refl _ _, trivial⟩
     ·clear hm; rintro ⟨v8, _⟩ base h hm ⟨O, _⟩
      ((conv=>whnf);repeat (first|apply Cs|apply Hs|apply Hx);conv=>whnf)
      refine ⟨_, rfl, fun hc => ?_, fun hc => ?_⟩
      ·replace hm := hm.1 hc
       apply Cs;((conv=>whnf);repeat (first|apply Cs|apply Hs|apply Hx);conv=>whnf)
       exact ⟨([], false, 1), hm, O.ext, fun h2 F => VLe.tup (LLe.cons (VLe.nil _ _) (LLe.cons (VLe.refl _ _) (LLe.cons (VLe.refl _ _) (LLe.nil _))))⟩
      ·replace hm := hm.2 hc
       apply Cs;((conv=>whnf);repeat (first|apply Cs|apply Hs|apply Hx);conv=>whnf)
       refine ⟨_, addK (a := v3) (b := 1) rfl rfl hm.1, ?_⟩; ((conv=>whnf);repeat (first|apply Hs|apply Hx);conv=>whnf)
       replace hm := hm.2
       exact ⟨((v3 + 1), ()), hm, ⟨O, trivial⟩, VLe.refl _ _, VLe.refl _ _, VLe.refl _ _, VLe.refl _ _, VLe.refl _ _, trivial⟩
    ·replace hm := hm.2 hc
     apply Cs;((conv=>whnf);repeat (first|apply Cs|apply Hs|apply Hx);conv=>whnf)
     exact ⟨((), ()), hm, ⟨O, trivial⟩, VLe.refl _ _, VLe.refl _ _, trivial⟩
   ·clear hm; rintro ⟨_, _⟩ base h hm ⟨O, _⟩
    ((conv=>whnf);repeat (first|apply Cs|apply Hs|apply Hx);conv=>whnf)
    refine ⟨_, (rfl : aread _ _ _ _ = some _), ?_⟩; ((conv=>whnf);repeat (first|apply Hs|apply Hx);conv=>whnf)
    first | refine ⟨.inr (.inr (rfl)), ?_⟩ | refine ⟨.inr (.inl (by kernel_rfl)), ?_⟩
    ((conv=>whnf);repeat (first|apply Cs|apply Hs|apply Hx);conv=>whnf)
    refine ⟨_, (rfl : aread _ _ _ _ = some _), ?_⟩; ((conv=>whnf);repeat (first|apply Hs|apply Hx);conv=>whnf)
    first | refine ⟨.inr (.inr (rfl)), ?_⟩ | refine ⟨.inr (.inl (by kernel_rfl)), ?_⟩
    ((conv=>whnf);repeat (first|apply Cs|apply Hs|apply Hx);conv=>whnf)
    obtain ⟨r11, hm, hcall⟩ := netlists_Fanout_walk hm O.has
    refine ⟨_, _, hcall, ?_⟩; ((conv=>whnf);repeat (first|apply Hs|apply Hx);conv=>whnf)
    refine ⟨.inl (Ext.refl _), ?_⟩; ((conv=>whnf);repeat (first|apply Hs|apply Hx);conv=>whnf)
    refine ⟨_, (rfl : aread _ _ _ _ = some _), ?_⟩; ((conv=>whnf);repeat (first|apply Hs|apply Hx);conv=>whnf)
    first | refine ⟨.inr (.inr (rfl)), ?_⟩ | refine ⟨.inr (.inl (by kernel_rfl)), ?_⟩
    ((conv=>whnf);repeat (first|apply Cs|apply Hs|apply Hx);conv=>whnf)
    refine lenM (s := 4) (enc := encNode) (l := p0.nodes) rfl rfl ?_; ((conv=>whnf);repeat (first|apply Hs|apply Hx);conv=>whnf)
    refine O.makeLX (enc := n8) (z := 0) (b := 1) (s := 1) (n := p0.nodes.length) rfl rfl rfl rfl rfl (by decide) (by kernel_rfl) rfl rfl hm.1 hm.2.1 fun g12 h O => ?_; ((conv=>whnf);repeat (first|apply Hs|apply Hx);conv=>whnf)
    replace hm := hm.2.2
    have O := O.addNil (.cells ([] ++ flatC ((([] : List Nat)).map i64)) false)
    refine O.newX (boxK rfl) fun g14 h O => ?_; ((conv=>whnf);repeat (first|apply Hs|apply Hx);conv=>whnf)
    refine CodeS.joinWS hm (nn := 125) (σ := ((List Nat) × (List Nat)) × (Option Nat × (List Value) × Nat)) (fun s => s.1) (fun ((v17, v21), (a18, a19, a20)) h => (a18 = none → v21 = []) ∧ (a19.length = a20) ∧ Own vars h0 [((some g14), .cells [((encL 4 encNode) p0.nodes), ((encL 1 Value.string) p0.names), ((encL 3 encMem) p0.mems), ((encL 1 i64) p0.outs), ((encL 1 (encL 2 encLn)) r11), (.slice (some ⟨g12, 0, none⟩) p0.nodes.length p0.nodes.length), (tailV 1 a18 a20 (v21.map i64))] false), ((some g12), .cells (flatC (v17.map n8)) false), (a18, .cells (a19 ++ flatC (v21.map i64)) false)] h ∧ True) (fun ((v17, v21), (a18, a19, a20)) => [(1, ((encL 2 encAsg) p1)), (2, (FP (encCirc p0))), (10, (.pointer (some ⟨g14, 0, none⟩)))]) rfl (fun hm' => ?_) ?_
    ·replace hm := hm'
     apply Cs;((conv=>whnf);repeat (first|apply Cs|apply Hs|apply Hx);conv=>whnf)
     refine ⟨_, (rfl : aread _ _ _ _ = some _), ?_⟩; ((conv=>whnf);repeat (first|apply Hs|apply Hx);conv=>whnf)
     refine lenM (s := 4) (enc := encNode) (l := p0.nodes) rfl rfl ?_; ((conv=>whnf);repeat (first|apply Cs|apply Hs|apply Hx);conv=>whnf)
     refine loopWK hM (by kernel_rfl) (nn := 125) (S := ((List Nat) × (List Nat) × Nat)) (σ := ((List Nat) × (List Nat) × Nat) × (Option Nat × (List Value) × Nat)) (fun s => s.1) (fun ((v25, v29, v30), (a26, a27, a28)) h => (a26 = none → v29 = []) ∧ (a27.length = a28) ∧ Own vars h0 [((some g14), .cells [((encL 4 encNode) p0.nodes), ((encL 1 Value.string) p0.names), ((encL 3 encMem) p0.mems), ((encL 1 i64) p0.outs), ((encL 1 (encL 2 encLn)) r11), (.slice (some ⟨g12, 0, none⟩) p0.nodes.length p0.nodes.length), (tailV 1 a26 a28 (v29.map i64))] false), ((some g12), .cells (flatC (v25.map n8)) false), (a26, .cells (a27 ++ flatC (v29.map i64)) false)] h ∧ True) (fun ((v25, v29, v30), (a26, a27, a28)) => [(1, ((encL 2 encAsg) p1)), (2, (FP (encCirc p0))), (10, (.pointer (some ⟨g14, 0, none⟩))), (55, (i64 p0.nodes.length)), (56, (i64 v30))]) rfl (((List.replicate p0.nodes.length (0 : Nat)), ([] : List Nat), 0), (none, [], 0)) hm ⟨(fun _ => rfl), rfl, (O.sel [0, 2, 1] (by decide)), trivial⟩ ⟨VLe.refl _ _, VLe.refl _ _, VLe.refl _ _, VLe.refl _ _, VLe.refl _ _, trivial⟩ ?_
     clear hm; rintro ⟨⟨v25, v29, v30⟩, ⟨a26, a27, a28⟩⟩ nx33 base h hm ⟨ha31, hp32, O, _⟩
     ((conv=>whnf);repeat (first|apply Cs|apply Hs|apply Hx);conv=>whnf)
     refine ⟨_, rfl, fun hc => ?_, fun hc => ?_⟩
     ·replace hm := hm.1 hc
      apply Cs;((conv=>whnf);repeat (first|apply Cs|apply Hs|apply Hx);conv=>whnf)
      refine ⟨_, loadK rfl (O.at (.head _)) rfl rfl, ?_⟩; ((conv=>whnf);repeat (first|apply Hs|apply Hx);conv=>whnf)
      obtain ⟨hj, x34, hx34, hm⟩ := hm
      refine indexK (s := 1) (j := v30) rfl rfl rfl rfl hj ?_; ((conv=>whnf);repeat (first|apply Hs|apply Hx);conv=>whnf)
      refine O.store (n := 1) (.tail _ (.head _)) rfl rfl rfl rfl (el_le (enc := n8) (s := 1) (k := 0) (n := 1) (fun _ => rfl) (lt_of_get hx34) (Nat.le_of_ble_eq_true rfl)) rfl (splice_all (enc := n8) (s := 1) (fun _ => rfl) (lt_of_get hx34) (x := 2) rfl) fun h O => ?_; ((conv=>whnf);repeat (first|apply Cs|apply Hs|apply Hx);conv=>whnf)
      refine ⟨_, loadK rfl (O.at (.head _)) rfl rfl, ?_⟩; ((conv=>whnf);repeat (first|apply Hs|apply Hx);conv=>whnf)
      refine NewG.frz rfl ?_; ((conv=>whnf);repeat (first|apply Hs|apply Hx);conv=>whnf)
      refine Own.appendT (enc := i64) (l := v29) (new := ([v30] : (List Nat))) (s := 1) (b := 8) hp32 O (.tail _ (.tail _ (.head _))) ha31 rfl rfl rfl rfl rfl rfl rfl rfl (YOk.fl rfl) (fun _ => rfl) (fun _ => rfl) (by decide) hm.1 fun a35 q37 o38 h hp39 ha36 O => ?_; ((conv=>whnf);repeat (first|apply Hs|apply Hx);conv=>whnf)
      replace hm := hm.2
      refine O.store (n := 1) (cs' := [((encL 4 encNode) p0.nodes), ((encL 1 Value.string) p0.names), ((encL 3 encMem) p0.mems), ((encL 1 i64) p0.outs), ((encL 1 (encL 2 encLn)) r11), (.slice (some ⟨g12, 0, none⟩) p0.nodes.length p0.nodes.length), (tailV 1 a35 o38 ((v29 ++ ([v30] : (List Nat))).map i64))]) (.head _) rfl rfl rfl rfl (Nat.le_of_ble_eq_true rfl) rfl rfl fun h O => ?_; ((conv=>whnf);repeat (first|apply Cs|apply Hs|apply Hx);conv=>whnf)
      refine ⟨_, addK (a := v30) (b := 1) rfl rfl hm.1, ?_⟩; ((conv=>whnf);repeat (first|apply Hs|apply Hx);conv=>whnf)
      replace hm := hm.2
      exact ⟨(((v25.set v30 2), (v29 ++ ([v30] : (List Nat))), (v30 + 1)), (a35, q37, o38)), hm, ⟨ha36, hp39, O, trivial⟩, VLe.refl _ _, VLe.refl _ _, VLe.refl _ _, VLe.refl _ _, VLe.refl _ _, trivial⟩
     ·replace hm := hm.2 hc
      apply Cs;((conv=>whnf);repeat (first|apply Cs|apply Hs|apply Hx);conv=>whnf)
      exact ⟨((v25, v29), (a26, a27, a28)), hm, ⟨ha31, hp32, O, trivial⟩, VLe.refl _ _, VLe.refl _ _, VLe.refl _ _, trivial⟩
    ·clear hm; rintro ⟨⟨v17, v21⟩, ⟨a18, a19, a20⟩⟩ base h hm ⟨ha22, hp23, O, _⟩
     conv=>whnf
     refine CodeS.joinWS hm (nn := 125) (σ := ((List Nat) × (List Nat)) × (Option Nat × (List Value) × Nat)) (fun s => s.1) (fun ((v40, v44), (a41, a42, a43)) h => (a41 = none → v44 = []) ∧ (a42.length = a43) ∧ Own vars h0 [((some g14), .cells [((encL 4 encNode) p0.nodes), ((encL 1 Value.string) p0.names), ((encL 3 encMem) p0.mems), ((encL 1 i64) p0.outs), ((encL 1 (encL 2 encLn)) r11), (.slice (some ⟨g12, 0, none⟩) p0.nodes.length p0.nodes.length), (tailV 1 a41 a43 (v44.map i64))] false), ((some g12), .cells (flatC (v40.map n8)) false), (a41, .cells (a42 ++ flatC (v44.map i64)) false)] h ∧ True) (fun ((v40, v44), (a41, a42, a43)) => [(2, (FP (encCirc p0))), (10, (.pointer (some ⟨g14, 0, none⟩)))]) rfl (fun hm' => ?_) ?_
     ·replace hm := hm'
      apply Cs;((conv=>whnf);repeat (first|apply Cs|apply Hs|apply Hx);conv=>whnf)
      refine lenM (s := 2) (enc := encAsg) (l := p1) rfl rfl ?_; ((conv=>whnf);repeat (first|apply Cs|apply Hs|apply Hx);conv=>whnf)
      refine loopWK hM (by kernel_rfl) (nn := 125) (S := ((List Nat) × (List Nat) × Nat)) (σ := ((List Nat) × (List Nat) × Nat) × (Option Nat × (List Value) × Nat)) (fun s => s.1) (fun ((v48, v52, v53), (a49, a50, a51)) h => (a49 = none → v52 = []) ∧ (a50.length = a51) ∧ Own vars h0 [((some g14), .cells [((encL 4 encNode) p0.nodes), ((encL 1 Value.string) p0.names), ((encL 3 encMem) p0.mems), ((encL 1 i64) p0.outs), ((encL 1 (encL 2 encLn)) r11), (.slice (some ⟨g12, 0, none⟩) p0.nodes.length p0.nodes.length), (tailV 1 a49 a51 (v52.map i64))] false), ((some g12), .cells (flatC (v48.map n8)) false), (a49, .cells (a50 ++ flatC (v52.map i64)) false)] h ∧ True) (fun ((v48, v52, v53), (a49, a50, a51)) => [(2, (FP (encCirc p0))), (10, (.pointer (some ⟨g14, 0, none⟩))), (76, ((encL 2 encAsg) p1)), (77, (i64 p1.length)), (78, (i64 v53))]) rfl ((v17, v21, 0), (a18, a19, a20)) hm ⟨ha22, hp23, O, trivial⟩ ⟨VLe.refl _ _, VLe.refl _ _, VLe.refl _ _, VLe.refl _ _, VLe.refl _ _, trivial⟩ ?_
      clear hm; rintro ⟨⟨v48, v52, v53⟩, ⟨a49, a50, a51⟩⟩ nx56 base h hm ⟨ha54, hp55, O, _⟩
      ((conv=>whnf);repeat (first|apply Cs|apply Hs|apply Hx);conv=>whnf)
      refine ⟨_, rfl, fun hc => ?_, fun hc => ?_⟩
      ·replace hm := hm.1 hc
       apply Cs;((conv=>whnf);repeat (first|apply Cs|apply Hs|apply Hx);conv=>whnf)
       obtain ⟨x57, hx57, hm⟩ := hm
       refine flAtM (s := 2) (enc := encAsg) (j := v53) rfl rfl rfl rfl hx57 ?_; ((conv=>whnf);repeat (first|apply Hs|apply Hx);conv=>whnf)
       refine ⟨_, (rfl : aread _ _ _ _ = some _), ?_⟩; ((conv=>whnf);repeat (first|apply Hs|apply Hx);conv=>whnf)
       refine O.new (anew_alloc (l := [(i64 0), (n8 0)]) rfl rfl rfl) fun g58 h O => ?_; ((conv=>whnf);repeat (first|apply Hs|apply Hx);conv=>whnf)
       refine O.store (n := 2) (cs' := [(i64 x57.net), (n8 x57.value)]) (.head _) rfl rfl rfl rfl (Nat.le_of_ble_eq_true rfl) rfl rfl fun h O => ?_; ((conv=>whnf);repeat (first|apply Cs|apply Hs|apply Hx);conv=>whnf)
       refine ⟨_, loadK rfl (O.at (.head _)) rfl rfl, ?_⟩; ((conv=>whnf);repeat (first|apply Hs|apply Hx);conv=>whnf)
       refine ⟨_, loadK rfl (O.at (.head _)) rfl rfl, ?_⟩; ((conv=>whnf);repeat (first|apply Hs|apply Hx);conv=>whnf)
       obtain ⟨_, h, hcall, r60, x61, x65, a62, a63, a64, hm, rfl, ha66, hp67, O, _⟩ := work_put_walk hm ha54 hp55 (O.sel [1, 2, 3, 0] (by decide))
       refine ⟨_, _, hcall, ?_⟩; ((conv=>whnf);repeat (first|apply Cs|apply Hs|apply Hx);conv=>whnf)
       refine ⟨_, rfl, fun hc => ?_, fun hc => ?_⟩
       ·replace hm := hm.1 hc
        apply Cs;((conv=>whnf);repeat (first|apply Cs|apply Hs|apply Hx);conv=>whnf)
        exact ⟨([], false, 0), hm, O.ext, fun h2 F => VLe.tup (LLe.cons (VLe.nil _ _) (LLe.cons (VLe.refl _ _) (LLe.cons (VLe.refl _ _) (LLe.nil _))))⟩
       ·replace hm := hm.2 hc
        apply Cs;((conv=>whnf);repeat (first|apply Cs|apply Hs|apply Hx);conv=>whnf)
        refine ⟨_, addK (a := v53) (b := 1) rfl rfl hm.1, ?_⟩; ((conv=>whnf);repeat (first|apply Hs|apply Hx);conv=>whnf)
        replace hm := hm.2
        exact ⟨((x61, x65, (v53 + 1)), (a62, a63, a64)), hm, ⟨ha66, hp67, (O.sel [0, 1, 2] (by decide)), trivial⟩, VLe.refl _ _, VLe.refl _ _, VLe.refl _ _, VLe.refl _ _, VLe.refl _ _, trivial⟩
      ·replace hm := hm.2 hc
       apply Cs;((conv=>whnf);repeat (first|apply Cs|apply Hs|apply Hx);conv=>whnf)
       exact ⟨((v48, v52), (a49, a50, a51)), hm, ⟨ha54, hp55, O, trivial⟩, VLe.refl _ _, VLe.refl _ _, trivial⟩
     ·clear hm; rintro ⟨⟨v40, v44⟩, ⟨a41, a42, a43⟩⟩ base h hm ⟨ha45, hp46, O, _⟩
      conv=>whnf
      apply Cs;conv=>whnf
      apply Cs;conv=>whnf
      refine CodeS.joinWS hm (nn := 125) (σ := ((List Nat) × (List Nat)) × (Option Nat × (List Value) × Nat)) (fun s => s.1) (fun ((v68, v72), (a69, a70, a71)) h => (a69 = none → v72 = []) ∧ (a70.length = a71) ∧ Own vars h0 [((some g14), .cells [((encL 4 encNode) p0.nodes), ((encL 1 Value.string) p0.names), ((encL 3 encMem) p0.mems), ((encL 1 i64) p0.outs), ((encL 1 (encL 2 encLn)) r11), (.slice (some ⟨g12, 0, none⟩) p0.nodes.length p0.nodes.length), (tailV 1 a69 a71 (v72.map i64))] false), ((some g12), .cells (flatC (v68.map n8)) false), (a69, .cells (a70 ++ flatC (v72.map i64)) false)] h ∧ True) (fun ((v68, v72), (a69, a70, a71)) => [(10, (.pointer (some ⟨g14, 0, none⟩)))]) rfl (fun hm' => ?_) ?_
      ·replace hm := hm'
       apply Cs;((conv=>whnf);repeat (first|apply Cs|apply Hs|apply Hx);conv=>whnf)
       refine loopWK hM (by kernel_rfl) (nn := 125) (S := ((List Nat) × (List Nat))) (σ := ((List Nat) × (List Nat)) × (Option Nat × (List Value) × Nat)) (fun s => s.1) (fun ((v76, v80), (a77, a78, a79)) h => (a77 = none → v80 = []) ∧ (a78.length = a79) ∧ Own vars h0 [((some g14), .cells [((encL 4 encNode) p0.nodes), ((encL 1 Value.string) p0.names), ((encL 3 encMem) p0.mems), ((encL 1 i64) p0.outs), ((encL 1 (encL 2 encLn)) r11), (.slice (some ⟨g12, 0, none⟩) p0.nodes.length p0.nodes.length), (tailV 1 a77 a79 (v80.map i64))] false), ((some g12), .cells (flatC (v76.map n8)) false), (a77, .cells (a78 ++ flatC (v80.map i64)) false)] h ∧ True) (fun ((v76, v80), (a77, a78, a79)) => [(2, (FP (encCirc p0))), (10, (.pointer (some ⟨g14, 0, none⟩)))]) rfl ((v40, v44), (a41, a42, a43)) hm ⟨ha45, hp46, O, trivial⟩ ⟨VLe.refl _ _, VLe.refl _ _, trivial⟩ ?_
       clear hm; rintro ⟨⟨v76, v80⟩, ⟨a77, a78, a79⟩⟩ nx83 base h hm ⟨ha81, hp82, O, _⟩
       ((conv=>whnf);repeat (first|apply Cs|apply Hs|apply Hx);conv=>whnf)
       refine ⟨_, loadK rfl (O.at (.head _)) rfl rfl, ?_⟩; ((conv=>whnf);repeat (first|apply Hs|apply Hx);conv=>whnf)
       refine lenG (enc := i64) (l := v80) rfl rfl ?_; ((conv=>whnf);repeat (first|apply Cs|apply Hs|apply Hx);conv=>whnf)
       refine ⟨_, rfl, fun hc => ?_, fun hc => ?_⟩
       ·replace hm := hm.1 hc
        apply Cs;((conv=>whnf);repeat (first|apply Cs|apply Hs|apply Hx);conv=>whnf)
        refine ⟨_, loadK rfl (O.at (.head _)) rfl rfl, ?_⟩; ((conv=>whnf);repeat (first|apply Hs|apply Hx);conv=>whnf)
        obtain ⟨x84, hx84, hm⟩ := hm
        obtain ⟨g85, rfl⟩ := addr_some ha81 hx84
        refine tailAtK (s := 1) (enc := i64) (o := a79) (j := 0) rfl rfl rfl rfl hx84 ?_; ((conv=>whnf);repeat (first|apply Hs|apply Hx);conv=>whnf)
        refine ⟨_, loadK rfl (O.at (.tail _ (.tail _ (.head _)))) rfl (tail_cell (enc := i64) (s := 1) (k := 0) hp82 (fun _ => rfl) hx84 rfl), ?_⟩; ((conv=>whnf);repeat (first|apply Cs|apply Hs|apply Hx);conv=>whnf)
        refine ⟨_, loadK rfl (O.at (.head _)) rfl rfl, ?_⟩; ((conv=>whnf);repeat (first|apply Hs|apply Hx);conv=>whnf)
        refine tailFromK (s := 1) (enc := i64) (l := v80) (o := a79) (k := 1) rfl rfl rfl rfl hm.1 ?_; ((conv=>whnf);repeat (first|apply Hs|apply Hx);conv=>whnf)
        rw [tail_split (enc := i64) (l := v80) 1] at O
        have hp86 := tail_len (enc := i64) (l := v80) (s := 1) (k := 1) (fun _ => rfl) hp82 hm.1
        replace hm := hm.2
        refine O.store (n := 1) (cs' := [((encL 4 encNode) p0.nodes), ((encL 1 Value.string) p0.names), ((encL 3 encMem) p0.mems), ((encL 1 i64) p0.outs), ((encL 1 (encL 2 encLn)) r11), (.slice (some ⟨g12, 0, none⟩) p0.nodes.length p0.nodes.length), (tailV 1 (some g85) (a79 + 1 * 1) ((v80.drop 1).map i64))]) (.head _) rfl rfl rfl rfl (Nat.le_of_ble_eq_true rfl) rfl rfl fun h O => ?_; ((conv=>whnf);repeat (first|apply Cs|apply Hs|apply Hx);conv=>whnf)
        refine ⟨_, (rfl : aread _ _ _ _ = some _), ?_⟩; ((conv=>whnf);repeat (first|apply Hs|apply Hx);conv=>whnf)
        obtain ⟨x87, hx87, hm⟩ := hm
        refine flAtM (s := 4) (enc := encNode) (j := x84) rfl rfl rfl rfl hx87 ?_; ((conv=>whnf);repeat (first|apply Hs|apply Hx);conv=>whnf)
        refine ⟨_, (rfl : aread _ _ _ _ = some _), ?_⟩; ((conv=>whnf);repeat (first|apply Hs|apply Hx);conv=>whnf)
        obtain ⟨r88, hm, hcall⟩ := implies_free_walk hm O.has
        refine ⟨_, _, hcall, ?_⟩; ((conv=>whnf);repeat (first|apply Cs|apply Hs|apply Hx);conv=>whnf)
        refine ⟨_, rfl, fun hc => ?_, fun hc => ?_⟩
        ·replace hm := hm.1 hc
         apply Cs;((conv=>whnf);repeat (first|apply Cs|apply Hs|apply Hx);conv=>whnf)
         exact ⟨((v76, (v80.drop 1)), ((some g85), (a78 ++ flatC ((v80.take 1).map i64)), (a79 + 1 * 1))), hm, ⟨someNone, hp86, O, trivial⟩, VLe.refl _ _, VLe.refl _ _, trivial⟩
        ·replace hm := hm.2 hc
         apply Cs;((conv=>whnf);repeat (first|apply Cs|apply Hs|apply Hx);conv=>whnf)
         obtain ⟨_, h, hcall, r89, x90, x94, a91, a92, a93, hm, rfl, ha95, hp96, O, _⟩ := work_gate_walk hm someNone hp86 O
         refine ⟨_, _, hcall, ?_⟩; ((conv=>whnf);repeat (first|apply Cs|apply Hs|apply Hx);conv=>whnf)
         refine ⟨_, rfl, fun hc => ?_, fun hc => ?_⟩
         ·replace hm := hm.1 hc
          apply Cs;((conv=>whnf);repeat (first|apply Cs|apply Hs|apply Hx);conv=>whnf)
          exact ⟨([], false, 0), hm, O.ext, fun h2 F => VLe.tup (LLe.cons (VLe.nil _ _) (LLe.cons (VLe.refl _ _) (LLe.cons (VLe.refl _ _) (LLe.nil _))))⟩
         ·replace hm := hm.2 hc
          apply Cs;((conv=>whnf);repeat (first|apply Cs|apply Hs|apply Hx);conv=>whnf)
          exact ⟨((x90, x94), (a91, a92, a93)), hm, ⟨ha95, hp96, O, trivial⟩, VLe.refl _ _, VLe.refl _ _, trivial⟩
       ·replace hm := hm.2 hc
        apply Cs;((conv=>whnf);repeat (first|apply Cs|apply Hs|apply Hx);conv=>whnf)
        exact ⟨((v76, v80), (a77, a78, a79)), hm, ⟨ha81, hp82, O, trivial⟩, VLe.refl _ _, trivial⟩
      ·clear hm; rintro ⟨⟨v68, v72⟩, ⟨a69, a70, a71⟩⟩ base h hm ⟨ha73, hp74, O, _⟩
       ((conv=>whnf);repeat (first|apply Cs|apply Hs|apply Hx);conv=>whnf)
       refine ⟨_, loadK rfl (O.at (.head _)) rfl rfl, ?_⟩; ((conv=>whnf);repeat (first|apply Cs|apply Hs|apply Hx);conv=>whnf)
       obtain ⟨hn97, hm⟩ := hm
       exact ⟨(v68, true, 0), hm, O.ext, fun h2 F => VLe.tup (LLe.cons (O.flatL F (Nat.le_refl _) (.tail _ (.head _)) (fun _ => rfl) hn97) (LLe.cons (VLe.refl _ _) (LLe.cons (VLe.refl _ _) (LLe.nil _))))⟩
def cf_aboveI_wp (p0 : (List Nat)) (K : Int → Prop) : Prop :=
  joinW (α := Unit) (fun k1 => loopW (S := Nat) (fun v2 nx3 => ((ltN v2 p0.length) = true → ∃ x4, p0[v2]? = some x4 ∧ ((ltN 2 x4) = true → K (Int.ofNat v2)) ∧ ((ltN 2 x4) = false → v2 + 1 < 2 ^ 63 ∧ nx3 (v2 + 1))) ∧ ((ltN v2 p0.length) = false → k1 ())) 0) (fun _ => K (Int.negSucc 0))
theorem cf_aboveI_walk {p0 : (List Nat)} {K : Int → Prop} (hm : cf_aboveI_wp p0 K) {h0 : Heap} (hB : HasB vars h0) : ∃ r, K r ∧ CallD Tryd.prog NG 45 ⟨[(encL 1 n8) p0, (.func (.func 31) ⟨[]⟩ ⟨[]⟩)]⟩ h0 (z64 r) h0 := by
  unfold cf_aboveI_wp at hm
  refine fnW hM Tryd.func45 rfl (hP _ _ rfl Tryd.func45) (Nat.le_of_ble_eq_true rfl) hB (enc := z64) (fun r => PureV.flat rfl) fun O => ?_; conv=>whnf
  apply Cs;conv=>whnf
  apply Cs;((conv=>whnf);repeat (first|apply Hs|apply Hx);conv=>whnf)
  refine CodeS.joinWS hm (nn := 19) (σ := Unit × Unit) (fun s => s.1) (fun (_, _) h => Own vars h0 [] h ∧ True) (fun (_, _) => []) rfl (fun hm' => ?_) ?_
  ·replace hm := hm'
   apply Cs;((conv=>whnf);repeat (first|apply Cs|apply Hs|apply Hx);conv=>whnf)
   refine lenM (s := 1) (enc := n8) (l := p0) rfl rfl ?_; ((conv=>whnf);repeat (first|apply Cs|apply Hs|apply Hx);conv=>whnf)
   refine loopWK hM (by kernel_rfl) (nn := 19) (S := Nat) (σ := Nat × Unit) (fun s => s.1) (fun (v2, _) h => Own vars h0 [] h ∧ True) (fun (v2, _) => [(0, ((encL 1 n8) p0)), (1, (.func (.func 31) ⟨[]⟩ ⟨[]⟩)), (7, (i64 p0.length)), (8, (i64 v2))]) rfl (0, ()) hm ⟨O, trivial⟩ ⟨VLe.refl _ _, VLe.refl _ _, VLe.refl _ _, VLe.refl _ _, trivial⟩ ?_
   clear hm; rintro ⟨v2, _⟩ nx3 base h hm ⟨O, _⟩
   ((conv=>whnf);repeat (first|apply Cs|apply Hs|apply Hx);conv=>whnf)
   refine ⟨_, rfl, fun hc => ?_, fun hc => ?_⟩
   ·replace hm := hm.1 hc
    apply Cs;((conv=>whnf);repeat (first|apply Cs|apply Hs|apply Hx);conv=>whnf)
    obtain ⟨x4, hx4, hm⟩ := hm
    refine flAtM (s := 1) (enc := n8) (j := v2) rfl rfl rfl rfl hx4 ?_; ((conv=>whnf);repeat (first|apply Hs|apply Hx);conv=>whnf)
    refine ⟨_, (rfl : aread _ _ _ _ = some _), ?_⟩; ((conv=>whnf);repeat (first|apply Hs|apply Hx);conv=>whnf)
    refine fnG hM Tryd.func31 rfl (hP _ _ rfl Tryd.func31) (Nat.le_of_ble_eq_true rfl) ?_; ((conv=>whnf);repeat (first|apply Cs|apply Hs|apply Hx);conv=>whnf)
    refine ⟨_, rfl, fun hc => ?_, fun hc => ?_⟩
    ·replace hm := hm.1 hc
     apply Cs;((conv=>whnf);repeat (first|apply Cs|apply Hs|apply Hx);conv=>whnf)
     exact ⟨(Int.ofNat v2), hm, O.ext, fun h2 F => VLe.refl _ _⟩
    ·replace hm := hm.2 hc
     apply Cs;((conv=>whnf);repeat (first|apply Cs|apply Hs|apply Hx);conv=>whnf)
     refine ⟨_, addK (a := v2) (b := 1) rfl rfl hm.1, ?_⟩; ((conv=>whnf);repeat (first|apply Hs|apply Hx);conv=>whnf)
     replace hm := hm.2
     exact ⟨((v2 + 1), ()), hm, ⟨O, trivial⟩, VLe.refl _ _, VLe.refl _ _, VLe.refl _ _, VLe.refl _ _, trivial⟩
   ·replace hm := hm.2 hc
    apply Cs;((conv=>whnf);repeat (first|apply Cs|apply Hs|apply Hx);conv=>whnf)
    exact ⟨((), ()), hm, ⟨O, trivial⟩, trivial⟩
  ·clear hm; rintro ⟨_, _⟩ base h hm ⟨O, _⟩
   ((conv=>whnf);repeat (first|apply Cs|apply Hs|apply Hx);conv=>whnf)
   exact ⟨(Int.negSucc 0), hm, O.ext, fun h2 F => VLe.refl _ _⟩
def cf_above_wp (p0 : (List Nat)) (K : Bool → Prop) : Prop :=
  cf_aboveI_wp p0 (fun r1 => K (!ltI r1 (Int.ofNat 0)))
theorem cf_above_walk {p0 : (List Nat)} {K : Bool → Prop} (hm : cf_above_wp p0 K) {h0 : Heap} (hB : HasB vars h0) : ∃ r, K r ∧ CallD Tryd.prog NG 30 ⟨[(encL 1 n8) p0, (.func (.func 31) ⟨[]⟩ ⟨[]⟩)]⟩ h0 (Value.bool r) h0 := by
  unfold cf_above_wp at hm
  refine fnW hM Tryd.func30 rfl (hP _ _ rfl Tryd.func30) (Nat.le_of_ble_eq_true rfl) hB (enc := Value.bool) (fun r => PureV.flat rfl) fun O => ?_; conv=>whnf
  apply Cs;((conv=>whnf);repeat (first|apply Cs|apply Hs|apply Hx);conv=>whnf)
  obtain ⟨r1, hm, hcall⟩ := cf_aboveI_walk hm O.has
  refine ⟨_, _, hcall, ?_⟩; ((conv=>whnf);repeat (first|apply Cs|apply Hs|apply Hx);conv=>whnf)
  exact ⟨(!ltI r1 (Int.ofNat 0)), hm, O.ext, fun h2 F => VLe.refl _ _⟩
def implies_Unjustified_wp (p0 : Circ) (p1 : (List Nat)) (K : ((List Nat) × Nat) → Prop) : Prop :=
  implies_Plain_wp p0 (fun r1 => ((neN r1 0) = true → K ([], r1)) ∧ ((neN r1 0) = false → ((neN p1.length p0.nodes.length) = true → K ([], 8)) ∧ ((neN p1.length p0.nodes.length) = false → cf_above_wp p1 (fun r2 => (r2 = true → K ([], 1)) ∧ (r2 = false → joinW (α := (List Nat)) (fun k7 => loopW (S := ((List Nat) × Nat)) (fun (v9, v10) nx12 => ((ltN v10 p0.nodes.length) = true → joinW (α := (List Nat)) (fun k16 => ∃ x17, p0.nodes[v10]? = some x17 ∧ 1 * x17.ins.length ≤ 2 ^ 48 ∧ x17.ins.length < 2 ^ 63 ∧ joinW (α := (List Nat)) (fun k24 => loopW (S := ((List Nat) × Nat)) (fun (v25, v26) nx28 => ((ltN v26 x17.ins.length) = true → ∃ x29, x17.ins[v26]? = some x29 ∧ ∃ x30, p1[x29]? = some x30 ∧ v26 < x17.ins.length ∧ ∃ x31, v25[v26]? = some x31 ∧ v26 + 1 < 2 ^ 63 ∧ nx28 ((v25.set v26 x30), (v26 + 1))) ∧ ((ltN v26 x17.ins.length) = false → k24 v25)) ((List.replicate x17.ins.length (0 : Nat)), 0)) (fun v22 => joinW (α := Bool) (fun k34 => implies_free_wp x17.kind (fun r35 => ((!r35) = true → ∃ x36, p1[v10]? = some x36 ∧ ((neN x36 2) = true → x17.ins.length = v22.length ∧ logic_Eval_wp x17.kind v22 (fun r37 => ∃ x39, p1[v10]? = some x39 ∧ k34 (neN r37 x39))) ∧ ((neN x36 2) = false → k34 false)) ∧ ((!r35) = false → k34 false))) (fun v32 => (v32 = true → (v9.length + ([v10] : (List Nat)).length) * 8 ≤ 2 ^ 47 ∧ k16 (v9 ++ ([v10] : (List Nat)))) ∧ (v32 = false → k16 v9)))) (fun v14 => v10 + 1 < 2 ^ 63 ∧ nx12 (v14, (v10 + 1)))) ∧ ((ltN v10 p0.nodes.length) = false → k7 v9)) (([] : List Nat), 0)) (fun v5 => K (v5, 0)))))))
theorem implies_Unjustified_walk {p0 : Circ} {p1 : (List Nat)} {K : ((List Nat) × Nat) → Prop} (hm : implies_Unjustified_wp p0 p1 K) {h0 : Heap} (hB : HasB vars h0) : ∃ r, K r ∧ CallD Tryd.prog NG 10 ⟨[encCirc p0, (encL 1 n8) p1]⟩ h0 ((fun (r : ((List Nat) × Nat)) => Value.tuple ⟨[(encL 1 i64) (r.1), i64 (r.2)]⟩) r) h0 := by
  unfold implies_Unjustified_wp at hm
  refine fnW hM Tryd.func10 rfl (hP _ _ rfl Tryd.func10) (Nat.le_of_ble_eq_true rfl) hB (enc := (fun (r : ((List Nat) × Nat)) => Value.tuple ⟨[(encL 1 i64) (r.1), i64 (r.2)]⟩)) (fun r => PureV.tup (AllPure.cons (pureL (fun _ => AllPure.cons (PureV.flat rfl) AllPure.nil)) (AllPure.cons (PureV.flat rfl) (AllPure.nil)))) fun O => ?_; conv=>whnf
  apply Cs;((conv=>whnf);repeat (first|apply Cs|apply Hs|apply Hx);conv=>whnf)
  refine NewG.frz rfl ?_; ((conv=>whnf);repeat (first|apply Cs|apply Hs|apply Hx);conv=>whnf)
  refine ⟨_, (rfl : aread _ _ _ _ = some _), ?_⟩; ((conv=>whnf);repeat (first|apply Hs|apply Hx);conv=>whnf)
  obtain ⟨r1, hm, hcall⟩ := implies_Plain_walk hm O.has
  refine ⟨_, _, hcall, ?_⟩; ((conv=>whnf);repeat (first|apply Cs|apply Hs|apply Hx);conv=>whnf)
  refine ⟨_, rfl, fun hc => ?_, fun hc => ?_⟩
  ·replace hm := hm.1 hc
   apply Cs;((conv=>whnf);repeat (first|apply Cs|apply Hs|apply Hx);conv=>whnf)
   exact ⟨([], r1), hm, O.ext, fun h2 F => VLe.tup (LLe.cons (VLe.nil _ _) (LLe.cons (VLe.refl _ _) (LLe.nil _)))⟩
  ·replace hm := hm.2 hc
   apply Cs;((conv=>whnf);repeat (first|apply Cs|apply Hs|apply Hx);conv=>whnf)
   refine lenM (s := 1) (enc := n8) (l := p1) rfl rfl ?_; ((conv=>whnf);repeat (first|apply Hs|apply Hx);conv=>whnf)
   refine ⟨_, (rfl : aread _ _ _ _ = some _), ?_⟩; ((conv=>whnf);repeat (first|apply Hs|apply Hx);conv=>whnf)
   refine lenM (s := 4) (enc := encNode) (l := p0.nodes) rfl rfl ?_; ((conv=>whnf);repeat (first|apply Cs|apply Hs|apply Hx);conv=>whnf)
   refine ⟨_, rfl, fun hc => ?_, fun hc => ?_⟩
   ·replace hm := hm.1 hc
    apply Cs;((conv=>whnf);repeat (first|apply Cs|apply Hs|apply Hx);conv=>whnf)
    exact ⟨([], 8), hm, O.ext, fun h2 F => VLe.tup (LLe.cons (VLe.nil _ _) (LLe.cons (VLe.refl _ _) (LLe.nil _)))⟩
   ·replace hm := hm.2 hc
    apply Cs;((conv=>whnf);repeat (first|apply Cs|apply Hs|apply Hx);conv=>whnf)
    obtain ⟨r2, hm, hcall⟩ := cf_above_walk hm O.has
    refine ⟨_, _, hcall, ?_⟩; ((conv=>whnf);repeat (first|apply Cs|apply Hs|apply Hx);conv=>whnf)
    refine ⟨_, rfl, fun hc => ?_, fun hc => ?_⟩
    ·replace hm := hm.1 hc
     apply Cs;((conv=>whnf);repeat (first|apply Cs|apply Hs|apply Hx);conv=>whnf)
     exact ⟨([], 1), hm, O.ext, fun h2 F => VLe.tup (LLe.cons (VLe.nil _ _) (LLe.cons (VLe.refl _ _) (LLe.nil _)))⟩
    ·replace hm := hm.2 hc
     apply Cs;conv=>whnf
     apply Cs;conv=>whnf
     apply Cs;((conv=>whnf);repeat (first|apply Hs|apply Hx);conv=>whnf)
     have O := O.addNil (.cells (flatC ((([] : List Nat)).map i64)) false)
     refine CodeS.joinWS hm (nn := 83) (σ := (List Nat) × Option Nat) (fun s => s.1) (fun (v5, a4) h => (a4 = none → v5 = []) ∧ Own vars h0 [(a4, .cells (flatC (v5.map i64)) false)] h ∧ True) (fun (v5, a4) => [(7, (growV 1 a4 (v5.map i64)))]) rfl (fun hm' => ?_) ?_
     ·replace hm := hm'
      apply Cs;((conv=>whnf);repeat (first|apply Cs|apply Hs|apply Hx);conv=>whnf)
      refine ⟨_, (rfl : aread _ _ _ _ = some _), ?_⟩; ((conv=>whnf);repeat (first|apply Hs|apply Hx);conv=>whnf)
      refine lenM (s := 4) (enc := encNode) (l := p0.nodes) rfl rfl ?_; ((conv=>whnf);repeat (first|apply Cs|apply Hs|apply Hx);conv=>whnf)
      refine loopWK hM (by kernel_rfl) (nn := 83) (S := ((List Nat) × Nat)) (σ := ((List Nat) × Nat) × Option Nat) (fun s => s.1) (fun ((v9, v10), a8) h => (a8 = none → v9 = []) ∧ Own vars h0 [(a8, .cells (flatC (v9.map i64)) false)] h ∧ True) (fun ((v9, v10), a8) => [(1, ((encL 1 n8) p1)), (7, (growV 1 a8 (v9.map i64))), (27, ((encL 4 encNode) p0.nodes)), (28, (i64 p0.nodes.length)), (29, (i64 v10))]) rfl ((([] : List Nat), 0), none) hm ⟨(fun _ => rfl), O, trivial⟩ ⟨VLe.refl _ _, VLe.refl _ _, VLe.refl _ _, VLe.refl _ _, VLe.refl _ _, trivial⟩ ?_
      clear hm; rintro ⟨⟨v9, v10⟩, a8⟩ nx12 base h hm ⟨ha11, O, _⟩
      ((conv=>whnf);repeat (first|apply Cs|apply Hs|apply Hx);conv=>whnf)
      refine ⟨_, rfl, fun hc => ?_, fun hc => ?_⟩
      ·replace hm := hm.1 hc
       apply Cs;conv=>whnf
       refine CodeS.joinWS hm (nn := 83) (σ := (List Nat) × Option Nat) (fun s => s.1) (fun (v14, a13) h => (a13 = none → v14 = []) ∧ Own vars h0 [(a13, .cells (flatC (v14.map i64)) false)] h ∧ True) (fun (v14, a13) => [(1, ((encL 1 n8) p1)), (7, (growV 1 a13 (v14.map i64))), (27, ((encL 4 encNode) p0.nodes)), (28, (i64 p0.nodes.length)), (29, (i64 v10))]) rfl (fun hm' => ?_) ?_
       ·replace hm := hm'
        apply Cs;((conv=>whnf);repeat (first|apply Cs|apply Hs|apply Hx);conv=>whnf)
        obtain ⟨x17, hx17, hm⟩ := hm
        refine flAtM (s := 4) (enc := encNode) (j := v10) rfl rfl rfl rfl hx17 ?_; ((conv=>whnf);repeat (first|apply Hs|apply Hx);conv=>whnf)
        refine ⟨_, (rfl : aread _ _ _ _ = some _), ?_⟩; ((conv=>whnf);repeat (first|apply Hs|apply Hx);conv=>whnf)
        refine O.new (anew_alloc (l := [(n8 0), (.slice none 0 0), (i64 0), (i64 0)]) rfl rfl rfl) fun g18 h O => ?_; ((conv=>whnf);repeat (first|apply Hs|apply Hx);conv=>whnf)
        refine O.store (n := 4) (cs' := [(n8 x17.kind), ((encL 1 i64) x17.ins), (i64 x17.mem), (i64 x17.bit)]) (.head _) rfl rfl rfl rfl (Nat.le_of_ble_eq_true rfl) rfl rfl fun h O => ?_; ((conv=>whnf);repeat (first|apply Cs|apply Hs|apply Hx);conv=>whnf)
        refine ⟨_, loadK rfl (O.at (.head _)) rfl rfl, ?_⟩; ((conv=>whnf);repeat (first|apply Hs|apply Hx);conv=>whnf)
        refine lenM (s := 1) (enc := i64) (l := x17.ins) rfl rfl ?_; ((conv=>whnf);repeat (first|apply Hs|apply Hx);conv=>whnf)
        refine O.makeL (enc := n8) (z := 0) (b := 1) (s := 1) (n := x17.ins.length) rfl rfl rfl rfl rfl (by decide) (by kernel_rfl) rfl rfl hm.1 hm.2.1 fun g20 h O => ?_; ((conv=>whnf);repeat (first|apply Hs|apply Hx);conv=>whnf)
        replace hm := hm.2.2
        refine CodeS.joinWS hm (nn := 83) (σ := (List Nat) × Unit) (fun s => s.1) (fun (v22, _) h => (a8 = none → v9 = []) ∧ Own vars h0 [(a8, .cells (flatC (v9.map i64)) false), ((some g18), .cells [(n8 x17.kind), ((encL 1 i64) x17.ins), (i64 x17.mem), (i64 x17.bit)] false), ((some g20), .cells (flatC (v22.map n8)) false)] h ∧ True) (fun (v22, _) => [(1, ((encL 1 n8) p1)), (7, (growV 1 a8 (v9.map i64))), (8, (i64 v10)), (9, (.pointer (some ⟨g18, 0, none⟩))), (10, (.slice (some ⟨g20, 0, none⟩) x17.ins.length x17.ins.length)), (27, ((encL 4 encNode) p0.nodes)), (28, (i64 p0.nodes.length)), (29, (i64 v10))]) rfl (fun hm' => ?_) ?_
        ·replace hm := hm'
         apply Cs;((conv=>whnf);repeat (first|apply Cs|apply Hs|apply Hx);conv=>whnf)
         refine ⟨_, loadK rfl (O.at (.tail _ (.head _))) rfl rfl, ?_⟩; ((conv=>whnf);repeat (first|apply Hs|apply Hx);conv=>whnf)
         refine lenM (s := 1) (enc := i64) (l := x17.ins) rfl rfl ?_; ((conv=>whnf);repeat (first|apply Cs|apply Hs|apply Hx);conv=>whnf)
         refine loopWK hM (by kernel_rfl) (nn := 83) (S := ((List Nat) × Nat)) (σ := ((List Nat) × Nat) × Unit) (fun s => s.1) (fun ((v25, v26), _) h => (a8 = none → v9 = []) ∧ Own vars h0 [(a8, .cells (flatC (v9.map i64)) false), ((some g18), .cells [(n8 x17.kind), ((encL 1 i64) x17.ins), (i64 x17.mem), (i64 x17.bit)] false), ((some g20), .cells (flatC (v25.map n8)) false)] h ∧ True) (fun ((v25, v26), _) => [(1, ((encL 1 n8) p1)), (7, (growV 1 a8 (v9.map i64))), (8, (i64 v10)), (9, (.pointer (some ⟨g18, 0, none⟩))), (10, (.slice (some ⟨g20, 0, none⟩) x17.ins.length x17.ins.length)), (27, ((encL 4 encNode) p0.nodes)), (28, (i64 p0.nodes.length)), (29, (i64 v10)), (39, ((encL 1 i64) x17.ins)), (40, (i64 x17.ins.length)), (41, (i64 v26))]) rfl (((List.replicate x17.ins.length (0 : Nat)), 0), ()) hm ⟨ha11, (O.sel [2, 1, 0] (by decide)), trivial⟩ ⟨VLe.refl _ _, VLe.refl _ _, VLe.refl _ _, VLe.refl _ _, VLe.refl _ _, VLe.refl _ _, VLe.refl _ _, VLe.refl _ _, VLe.refl _ _, VLe.refl _ _, VLe.refl _ _, trivial⟩ ?_
         clear hm; rintro ⟨⟨v25, v26⟩, _⟩ nx28 base h hm ⟨ha27, O, _⟩
         ((conv=>whnf);repeat (first|apply Cs|apply Hs|apply Hx);conv=>whnf)
         refine ⟨_, rfl, fun hc => ?_, fun hc => ?_⟩
         ·replace hm := hm.1 hc
          apply Cs;((conv=>whnf);repeat (first|apply Cs|apply Hs|apply Hx);conv=>whnf)
          obtain ⟨x29, hx29, hm⟩ := hm
          refine flAtM (s := 1) (enc := i64) (j := v26) rfl rfl rfl rfl hx29 ?_; ((conv=>whnf);repeat (first|apply Hs|apply Hx);conv=>whnf)
          refine ⟨_, (rfl : aread _ _ _ _ = some _), ?_⟩; ((conv=>whnf);repeat (first|apply Cs|apply Hs|apply Hx);conv=>whnf)
          obtain ⟨x30, hx30, hm⟩ := hm
          refine flAtM (s := 1) (enc := n8) (j := x29) rfl rfl rfl rfl hx30 ?_; ((conv=>whnf);repeat (first|apply Hs|apply Hx);conv=>whnf)
          refine ⟨_, (rfl : aread _ _ _ _ = some _), ?_⟩; ((conv=>whnf);repeat (first|apply Hs|apply Hx);conv=>whnf)
          obtain ⟨hj, x31, hx31, hm⟩ := hm
          refine indexK (s := 1) (j := v26) rfl rfl rfl rfl hj ?_; ((conv=>whnf);repeat (first|apply Hs|apply Hx);conv=>whnf)
          refine O.store (n := 1) (.tail _ (.tail _ (.head _))) rfl rfl rfl rfl (el_le (enc := n8) (s := 1) (k := 0) (n := 1) (fun _ => rfl) (lt_of_get hx31) (Nat.le_of_ble_eq_true rfl)) rfl (splice_all (enc := n8) (s := 1) (fun _ => rfl) (lt_of_get hx31) (x := x30) rfl) fun h O => ?_; ((conv=>whnf);repeat (first|apply Cs|apply Hs|apply Hx);conv=>whnf)
          refine ⟨_, addK (a := v26) (b := 1) rfl rfl hm.1, ?_⟩; ((conv=>whnf);repeat (first|apply Hs|apply Hx);conv=>whnf)
          replace hm := hm.2
          exact ⟨(((v25.set v26 x30), (v26 + 1)), ()), hm, ⟨ha27, O, trivial⟩, VLe.refl _ _, VLe.refl _ _, VLe.refl _ _, VLe.refl _ _, VLe.refl _ _, VLe.refl _ _, VLe.refl _ _, VLe.refl _ _, VLe.refl _ _, VLe.refl _ _, VLe.refl _ _, trivial⟩
         ·replace hm := hm.2 hc
          apply Cs;((conv=>whnf);repeat (first|apply Cs|apply Hs|apply Hx);conv=>whnf)
          exact ⟨(v25, ()), hm, ⟨ha27, O, trivial⟩, VLe.refl _ _, VLe.refl _ _, VLe.refl _ _, VLe.refl _ _, VLe.refl _ _, VLe.refl _ _, VLe.refl _ _, VLe.refl _ _, trivial⟩
        ·clear hm; rintro ⟨v22, _⟩ base h hm ⟨ha23, O, _⟩
         conv=>whnf
         refine CodeS.joinWS hm (nn := 83) (σ := Bool × Unit) (fun s => s.1) (fun (v32, _) h => (a8 = none → v9 = []) ∧ Own vars h0 [(a8, .cells (flatC (v9.map i64)) false)] h ∧ True) (fun (v32, _) => [(1, ((encL 1 n8) p1)), (7, (growV 1 a8 (v9.map i64))), (8, (i64 v10)), (27, ((encL 4 encNode) p0.nodes)), (28, (i64 p0.nodes.length)), (29, (i64 v10)), (75, (.bool v32))]) rfl (fun hm' => ?_) ?_
         ·replace hm := hm'
          apply Cs;((conv=>whnf);repeat (first|apply Cs|apply Hs|apply Hx);conv=>whnf)
          refine ⟨_, loadK rfl (O.at (.tail _ (.head _))) rfl rfl, ?_⟩; ((conv=>whnf);repeat (first|apply Hs|apply Hx);conv=>whnf)
          refine ⟨.inl rfl, ?_⟩; ((conv=>whnf);repeat (first|apply Hs|apply Hx);conv=>whnf)
          obtain ⟨r35, hm, hcall⟩ := implies_free_walk hm O.has
          refine ⟨_, _, hcall, ?_⟩; ((conv=>whnf);repeat (first|apply Hs|apply Hx);conv=>whnf)
          refine ⟨.inl (Ext.refl _), ?_⟩; ((conv=>whnf);repeat (first|apply Hs|apply Hx);conv=>whnf)
          refine ⟨_, rfl, fun hc => ?_, fun hc => ?_⟩
          ·replace hm := hm.1 hc; ((conv=>whnf);repeat (first|apply Hs|apply Hx);conv=>whnf)
           obtain ⟨x36, hx36, hm⟩ := hm
           refine flAtM (s := 1) (enc := n8) (j := v10) rfl rfl rfl rfl hx36 ?_; ((conv=>whnf);repeat (first|apply Hs|apply Hx);conv=>whnf)
           refine ⟨_, (rfl : aread _ _ _ _ = some _), ?_⟩; ((conv=>whnf);repeat (first|apply Hs|apply Hx);conv=>whnf)
           refine ⟨.inl rfl, ?_⟩; ((conv=>whnf);repeat (first|apply Hs|apply Hx);conv=>whnf)
           refine ⟨_, rfl, fun hc => ?_, fun hc => ?_⟩
           ·replace hm := hm.1 hc; ((conv=>whnf);repeat (first|apply Hs|apply Hx);conv=>whnf)
            refine ⟨_, loadK rfl (O.at (.tail _ (.head _))) rfl rfl, ?_⟩; ((conv=>whnf);repeat (first|apply Hs|apply Hx);conv=>whnf)
            refine ⟨.inl rfl, ?_⟩; ((conv=>whnf);repeat (first|apply Hs|apply Hx);conv=>whnf)
            obtain ⟨hn38, hm⟩ := hm
            refine CallD.useB (fun _ hb => logic_Eval_walk hm hb) (fun _ => flatB_ok rfl) fzVars O.has (fun h2 F => (LLe.cons (VLe.refl _ _) (LLe.cons (O.flatL F (Nat.zero_le _) (.tail _ (.tail _ (.head _))) (fun _ => rfl) hn38) (LLe.nil _)))) (by kernel_rfl) (fun r37 hm' => ?_); replace hm := hm'; ((conv=>whnf);repeat (first|apply Hs|apply Hx);conv=>whnf)
            refine ⟨.inl (Ext.refl _), ?_⟩; ((conv=>whnf);repeat (first|apply Hs|apply Hx);conv=>whnf)
            obtain ⟨x39, hx39, hm⟩ := hm
            refine flAtM (s := 1) (enc := n8) (j := v10) rfl rfl rfl rfl hx39 ?_; ((conv=>whnf);repeat (first|apply Hs|apply Hx);conv=>whnf)
            refine ⟨_, (rfl : aread _ _ _ _ = some _), ?_⟩; ((conv=>whnf);repeat (first|apply Hs|apply Hx);conv=>whnf)
            refine ⟨.inl rfl, ?_⟩; ((conv=>whnf);repeat (first|apply Hs|apply Hx);conv=>whnf)
            exact ⟨((neN r37 x39), ()), hm, ⟨ha23, (O.sel [0] (by decide)), trivial⟩, VLe.refl _ _, VLe.refl _ _, VLe.refl _ _, VLe.refl _ _, VLe.refl _ _, VLe.refl _ _, VLe.refl _ _, trivial⟩
           ·replace hm := hm.2 hc; ((conv=>whnf);repeat (first|apply Hs|apply Hx);conv=>whnf)
            exact ⟨(false, ()), hm, ⟨ha23, (O.sel [0] (by decide)), trivial⟩, VLe.refl _ _, VLe.refl _ _, VLe.refl _ _, VLe.refl _ _, VLe.refl _ _, VLe.refl _ _, VLe.refl _ _, trivial⟩
          ·replace hm := hm.2 hc; ((conv=>whnf);repeat (first|apply Hs|apply Hx);conv=>whnf)
           refine ⟨false, rfl, (fun hc => nomatch hc), fun _ => ?_⟩; ((conv=>whnf);repeat (first|apply Hs|apply Hx);conv=>whnf)
           exact ⟨(false, ()), hm, ⟨ha23, (O.sel [0] (by decide)), trivial⟩, VLe.refl _ _, VLe.refl _ _, VLe.refl _ _, VLe.refl _ _, VLe.refl _ _, VLe.refl _ _, VLe.refl _ _, trivial⟩
         ·clear hm; rintro ⟨v32, _⟩ base h hm ⟨ha33, O, _⟩
          ((conv=>whnf);repeat (first|apply Cs|apply Hs|apply Hx);conv=>whnf)
          refine ⟨_, rfl, fun hc => ?_, fun hc => ?_⟩
          ·replace hm := hm.1 hc
           apply Cs;((conv=>whnf);repeat (first|apply Cs|apply Hs|apply Hx);conv=>whnf)
           refine NewG.frz rfl ?_; ((conv=>whnf);repeat (first|apply Hs|apply Hx);conv=>whnf)
           refine O.appendL (enc := i64) (l := v9) (new := ([v10] : (List Nat))) (s := 1) (b := 8) (.head _) ha33 rfl rfl rfl rfl rfl rfl rfl rfl (YOk.fl rfl) (fun _ => rfl) (fun _ => rfl) (by decide) hm.1 fun a40 h ha41 O => ?_; ((conv=>whnf);repeat (first|apply Hs|apply Hx);conv=>whnf)
           replace hm := hm.2
           exact ⟨((v9 ++ ([v10] : (List Nat))), a40), hm, ⟨ha41, O, trivial⟩, VLe.refl _ _, VLe.refl _ _, VLe.refl _ _, VLe.refl _ _, VLe.refl _ _, trivial⟩
          ·replace hm := hm.2 hc
           apply Cs;((conv=>whnf);repeat (first|apply Cs|apply Hs|apply Hx);conv=>whnf)
           exact ⟨(v9, a8), hm, ⟨ha33, O, trivial⟩, VLe.refl _ _, VLe.refl _ _, VLe.refl _ _, VLe.refl _ _, VLe.refl _ _, trivial⟩
       ·clear hm; rintro ⟨v14, a13⟩ base h hm ⟨ha15, O, _⟩
        ((conv=>whnf);repeat (first|apply Cs|apply Hs|apply Hx);conv=>whnf)
        refine ⟨_, addK (a := v10) (b := 1) rfl rfl hm.1, ?_⟩; ((conv=>whnf);repeat (first|apply Hs|apply Hx);conv=>whnf)
        replace hm := hm.2
        exact ⟨((v14, (v10 + 1)), a13), hm, ⟨ha15, O, trivial⟩, VLe.refl _ _, VLe.refl _ _, VLe.refl _ _, VLe.refl _ _, VLe.refl _ _, trivial⟩
      ·replace hm := hm.2 hc
       apply Cs;((conv=>whnf);repeat (first|apply Cs|apply Hs|apply Hx);conv=>whnf)
       exact ⟨(v9, a8), hm, ⟨ha11, O, trivial⟩, VLe.refl _ _, trivial⟩
     ·clear hm; rintro ⟨v5, a4⟩ base h hm ⟨ha6, O, _⟩
      ((conv=>whnf);repeat (first|apply Cs|apply Hs|apply Hx);conv=>whnf)
      refine fnG hM Tryd.func24 rfl (hP _ _ rfl Tryd.func24) (Nat.le_of_ble_eq_true rfl) ?_; ((conv=>whnf);repeat (first|apply Cs|apply Hs|apply Hx);conv=>whnf)
      refine lenG (enc := i64) (l := v5) rfl rfl ?_; ((conv=>whnf);repeat (first|apply Hs|apply Hx);conv=>whnf)
      refine lenG (enc := i64) (l := v5) rfl rfl ?_; ((conv=>whnf);repeat (first|apply Hs|apply Hx);conv=>whnf)
      refine clipK (s := 1) (enc := i64) (l := v5) (n := v5.length) (m := v5.length) rfl rfl rfl rfl rfl rfl rfl ?_; ((conv=>whnf);repeat (first|apply Cs|apply Hs|apply Hx);conv=>whnf)
      exact ⟨(v5, 0), hm, O.ext, fun h2 F => VLe.tup (LLe.cons (O.clipL F (Nat.le_refl _) (.head _) ha6 (fun _ => rfl)) (LLe.cons (VLe.refl _ _) (LLe.nil _)))⟩
end Go.Proofs.YtfhldkgelipnaaaDoor

namespace Go.Proofs.YtfhldkgelipnaaaDoor
open Go.Abs
set_option maxRecDepth 100000
/-- A plain circuit that is fine. -/
structure Pln (c : Circ) : Prop where
  good : Good c
  mems : c.mems = []
  kinds : ∀ (i : Nat) (y : Node), c.nodes[i]? = some y → y.kind ≠ 12 ∧ y.kind ≠ 13 ∧ y.kind ≠ 15
def isFree (k : Nat) : Bool := k == 0 || k == 14
theorem Pln.gate {c : Circ} (p : Pln c) {i : Nat} {y : Node} (h : c.nodes[i]? = some y) (hf : isFree y.kind = false) : 1 ≤ y.kind ∧ y.kind ≤ 11 := by
  have := p.kinds i y h
  have := (p.good.node i y h).kind
  simp only [isFree, Bool.or_eq_false_iff, beq_eq_false_iff_ne] at hf
  omega
theorem Pln.comb {c : Circ} (p : Pln c) {i : Nat} {y : Node} (h : c.nodes[i]? = some y) (hf : isFree y.kind = false) : isComb y.kind := by
  have := p.gate h hf
  exact ⟨this.1, by omega⟩
theorem free_vc {k : Nat} {K : Bool → Prop} (h : K (isFree k)) : implies_free_wp k K := by
  unfold implies_free_wp
  have e : isFree k = (eqN k 0 || eqN k 14) := by unfold isFree; rw [Bool.eq_iff_iff]; simp [eqN_eq]
  rw [e] at h
  refine ⟨fun q => by rw [q] at h; exact h, fun q => by rw [q] at h; exact h⟩
theorem plain_vc {c : Circ} {K : Nat → Prop} (p : Pln c) (h : K 0) : implies_Plain_wp c K := by
  have hlen := p.good.len
  unfold implies_Plain_wp
  refine check_vc p.good ⟨fun q => absurd rfl (ne_t.1 q), fun _ => ?_⟩
  have e0 : ltN 0 c.mems.length = false := lt_f.2 (by rw [p.mems]; exact Nat.le_refl _)
  refine joinI ⟨fun q => absurd (q.symm.trans e0) (by decide), fun _ => ?_⟩
  refine of_vc (by omega) (by decide) ?_
  have e : ofN c [12, 13, 15] = [] := by
    unfold ofN
    rw [List.filter_eq_nil_iff]
    intro i m
    have hi := List.mem_range.1 m
    obtain ⟨y, hy⟩ := get_lt hi
    have := p.kinds i y hy
    rw [List.getD, List.getElem?_map, hy]
    simp
    omega
  rw [e]
  exact ⟨(fun q => by cases q), fun _ => h⟩
def freeN (c : Circ) : List Nat := (List.range c.nodes.length).filter fun i => isFree (kd c i)
theorem notN_le (v : Nat) : notN v ≤ 2 := by unfold notN; split <;> omega
theorem decN_le {low high : Nat} (h1 : low ≤ 2) (h2 : high ≤ 2) : ∀ (l : List Nat) (o : Nat), o ≤ 2 → decN low high l o ≤ 2
  | [], o, h => h
  | v :: r, o, h => by
    unfold decN
    split
    · exact h1
    · refine decN_le h1 h2 r _ ?_
      split
      · exact h
      · exact Nat.le_refl _
theorem xorN_le : ∀ (l : List Nat) (o : Nat), o ≤ 1 → xorN l o ≤ 2
  | [], o, h => Nat.le_succ_of_le h
  | v :: r, o, h => by
    unfold xorN
    split
    · refine xorN_le r _ ?_
      have q1 : o = 0 ∨ o = 1 := by omega
      have q2 : v = 0 ∨ v = 1 := by omega
      rcases q1 with rfl | rfl <;> rcases q2 with rfl | rfl <;> simp
    · exact Nat.le_refl _
theorem evalN_le (k : Nat) (l : List Nat) : evalN k l ≤ 2 := by
  unfold evalN
  repeat' split
  all_goals first | omega | exact Nat.min_le_right _ _ | exact notN_le _ | exact decN_le (by decide) (by decide) _ _ (by decide) | exact xorN_le _ _ (by decide) | skip
  unfold muxN
  repeat' split
  all_goals first | exact Nat.min_le_right _ _ | exact Nat.le_refl _
/-- The values of a gate's inputs. -/
def insV (t : List Nat) (x : Node) : List Nat := x.ins.map fun k => t.getD k 0
theorem eval_node {c : Circ} (p : Pln c) {i : Nat} {x : Node} (hx : c.nodes[i]? = some x) (hf : isFree x.kind = false) {l : List Nat} (hl : l.length = x.ins.length) {K : Nat → Prop} (h : K (evalN x.kind l)) : logic_Eval_wp x.kind l K := by
  have g := p.good.node i x hx
  have := p.gate hx hf
  have hfew := g.few
  exact eval_vc this.1 (by omega) (by rw [hl]; exact g.arity) (by omega) h
/-- A total assignment. -/
structure TotOk (c : Circ) (b : Nat) (t : List Nat) : Prop where
  len : t.length = c.nodes.length
  free : ∀ j f, (freeN c)[j]? = some f → t.getD f 0 = b / 2 ^ j % 2
  gate : ∀ i x, c.nodes[i]? = some x → isFree x.kind = false → t.getD i 0 = evalN x.kind (insV t x)
  le : ∀ i, t.getD i 0 ≤ 2
theorem freeN_mem {c : Circ} {f : Nat} (h : f ∈ freeN c) : f < c.nodes.length ∧ isFree (kd c f) = true := by
  unfold freeN at h
  rw [List.mem_filter, List.mem_range] at h
  exact h
/-- The first i nodes of the order have their values. -/
structure TotTo (c : Circ) (b : Nat) (o t : List Nat) (i : Nat) : Prop where
  len : t.length = c.nodes.length
  free : ∀ j f, (freeN c)[j]? = some f → t.getD f 0 = b / 2 ^ j % 2
  gate : ∀ j m (x : Node), j < i → o[j]? = some m → c.nodes[m]? = some x → isFree x.kind = false → t.getD m 0 = evalN x.kind (insV t x)
  le : ∀ i, t.getD i 0 ≤ 2
theorem ord_inj {c : Circ} {o : List Nat} (h : OrdOk c o) {a b m : Nat} (h1 : o[a]? = some m) (h2 : o[b]? = some m) : a = b := by
  have hn : o.Nodup := h.perm.nodup_iff.2 List.nodup_range
  obtain ⟨q1, q2⟩ := List.getElem?_eq_some_iff.1 h1
  obtain ⟨q3, q4⟩ := List.getElem?_eq_some_iff.1 h2
  rcases Nat.lt_trichotomy a b with q | q | q
  · exact absurd (q2.trans q4.symm) (List.pairwise_iff_getElem.1 hn a b q1 q3 q)
  · exact q
  · exact absurd (q4.trans q2.symm) (List.pairwise_iff_getElem.1 hn b a q3 q1 q)
theorem TotTo.skip {c : Circ} {b : Nat} {o t : List Nat} {i m : Nat} {x : Node} (T : TotTo c b o t i) (hm : o[i]? = some m) (hx : c.nodes[m]? = some x) (hf : isFree x.kind = true) : TotTo c b o t (i + 1) := by
  refine ⟨T.len, T.free, fun j m' x' hj ho hx' hf' => ?_, T.le⟩
  by_cases e : j = i
  · subst e
    rw [hm] at ho; cases ho
    rw [hx] at hx'; cases hx'
    rw [hf] at hf'; cases hf'
  · exact T.gate j m' x' (by omega) ho hx' hf'
theorem TotTo.step {c : Circ} (p : Pln c) {b : Nat} {o t : List Nat} (ho : OrdOk c o) {i m : Nat} {x : Node} (T : TotTo c b o t i) (hm : o[i]? = some m) (hx : c.nodes[m]? = some x) (hf : isFree x.kind = false) : TotTo c b o (t.set m (evalN x.kind (insV t x))) (i + 1) := by
  have hml : m < t.length := by rw [T.len]; exact lt_of_get hx
  have same : ∀ (j m' : Nat) (x' : Node), j ≤ i → o[j]? = some m' → c.nodes[m']? = some x' → isFree x'.kind = false → insV (t.set m (evalN x.kind (insV t x))) x' = insV t x' := by
    intro j m' x' hj h1 h2 h3
    unfold insV
    refine List.map_congr_left fun k hk => ?_
    rw [getD_set hml]
    by_cases e : m = k
    · subst e
      obtain ⟨b', hb, hb2⟩ := ho.before j m' x' m h1 h2 (p.comb h2 h3) hk
      have := ord_inj ho hb2 hm
      omega
    · rw [if_neg e]
  refine ⟨by rw [List.length_set]; exact T.len, fun j f hj => ?_, fun j m' x' hj h1 h2 h3 => ?_, fun k => ?_⟩
  · rw [getD_set hml, if_neg ?_]
    · exact T.free j f hj
    · rintro rfl
      have := (freeN_mem (List.mem_of_getElem? hj)).2
      rw [kd_eq hx, hf] at this
      cases this
  · rw [same j m' x' (by omega) h1 h2 h3, getD_set hml]
    by_cases e : m = m'
    · subst e
      rw [if_pos rfl]
      rw [hx] at h2; cases h2
      rfl
    · rw [if_neg e]
      refine T.gate j m' x' ?_ h1 h2 h3
      by_cases e2 : j = i
      · subst e2; rw [hm] at h1; cases h1; exact absurd rfl e
      · omega
  · rw [getD_set hml]
    split
    · exact evalN_le _ _
    · exact T.le k
theorem TotTo.done {c : Circ} {b : Nat} {o t : List Nat} (ho : OrdOk c o) {i : Nat} (T : TotTo c b o t i) (hi : o.length ≤ i) : TotOk c b t := by
  refine ⟨T.len, T.free, fun m x hx hf => ?_, T.le⟩
  have hm : m ∈ o := ho.perm.mem_iff.2 (List.mem_range.2 (lt_of_get hx))
  obtain ⟨j, hj, e⟩ := List.getElem_of_mem hm
  exact T.gate j m x (by omega) (by rw [List.getElem?_eq_getElem hj, e]) hx hf
end Go.Proofs.YtfhldkgelipnaaaDoor

namespace Go.Proofs.YtfhldkgelipnaaaDoor
open Go.Abs
set_option maxRecDepth 100000
theorem above_vc {l : List Nat} {K : Bool → Prop} (hl : l.length < 2 ^ 60) (hv : ∀ v ∈ l, v ≤ 2) (h : K false) : cf_above_wp l K := by
  unfold cf_above_wp cf_aboveI_wp
  refine search_none (l := l) ?_ ?_ h
  · intro k i nx x hx hi hn
    have hv := hv x (List.mem_of_getElem? hx)
    refine ⟨fun _ => ⟨x, hx, fun q => ?_, fun _ => ⟨by omega, hn⟩⟩, fun q => ?_⟩
    · have := lt_t.1 q; omega
    · have := lt_f.1 q; omega
  · intro k i nx hi hk
    refine ⟨fun q => ?_, fun _ => hk⟩
    have := lt_t.1 q; omega
/-- The gate's output is known and is not what its inputs say. -/
def badB (c : Circ) (t : List Nat) (i : Nat) : Bool := !isFree (kd c i) && (t.getD i 0 != 2) && (evalN (kd c i) ((insOf c i).map fun k => t.getD k 0) != t.getD i 0)
def unjN (c : Circ) (t : List Nat) : List Nat := (List.range c.nodes.length).filter (badB c t)
theorem badB_eq {c : Circ} {t : List Nat} {i : Nat} {x : Node} (hx : c.nodes[i]? = some x) : badB c t i = (!isFree x.kind && (t.getD i 0 != 2) && (evalN x.kind (insV t x) != t.getD i 0)) := by
  unfold badB
  rw [kd_eq hx, ins_eq hx, insV]
theorem badB_t {c : Circ} {t : List Nat} {i : Nat} {x : Node} (hx : c.nodes[i]? = some x) (h1 : isFree x.kind = false) (h2 : ¬ t.getD i 0 = 2) (h3 : ¬ evalN x.kind (insV t x) = t.getD i 0) : badB c t i = true := by
  rw [badB_eq hx, h1]
  revert h2 h3
  generalize t.getD i 0 = v
  intro h2 h3
  simp [h2, h3]
theorem badB_f {c : Circ} {t : List Nat} {i : Nat} {x : Node} (hx : c.nodes[i]? = some x) (h : isFree x.kind = true ∨ t.getD i 0 = 2 ∨ evalN x.kind (insV t x) = t.getD i 0) : badB c t i = false := by
  rw [badB_eq hx]
  revert h
  generalize t.getD i 0 = v
  rintro (h | h | h)
  · rw [h]; simp
  · rw [h]; simp
  · rw [h]; simp
theorem filt_step {p : Nat → Bool} {i : Nat} : (List.range (i + 1)).filter p = (List.range i).filter p ++ (if p i = true then [i] else []) := by
  rw [List.range_succ, List.filter_append]
  simp only [List.filter_cons, List.filter_nil]
theorem unjustified_vc {c : Circ} (p : Pln c) {t : List Nat} (ht : t.length = c.nodes.length) (hv : ∀ v ∈ t, v ≤ 2) {K : List Nat × Nat → Prop} (h : K (unjN c t, 0)) : implies_Unjustified_wp c t K := by
  have hlen := p.good.len
  unfold implies_Unjustified_wp
  refine plain_vc p ⟨fun q => absurd rfl (ne_t.1 q), fun _ => ⟨fun q => absurd ht (ne_t.1 q), fun _ => above_vc (by omega) hv ⟨(fun q => by cases q), fun _ => ?_⟩⟩⟩
  refine joinLoop (fun s => s.2 ≤ c.nodes.length ∧ s.1 = (List.range s.2).filter (badB c t)) (fun s => c.nodes.length - s.2) (fun a => a = unjN c t) ?_ ⟨Nat.zero_le _, rfl⟩ (fun a e => by rw [e]; exact h)
  rintro k ⟨o, i⟩ nx ⟨hi, hI⟩ hnx hk
  dsimp only at hi hI
  refine ⟨fun q => ?_, fun q => ?_⟩
  · have q := lt_t.1 q
    (try dsimp only at q)
    obtain ⟨x, hx⟩ := get_lt q
    have hol : o.length ≤ i := by rw [hI]; exact Nat.le_trans (List.length_filter_le _ _) (by simp)
    have hg := p.good.node i x hx
    have hfew := hg.few
    refine joinI ⟨x, hx, by omega, by omega, ?_⟩
    refine joinLoop (fun s => s.2 ≤ x.ins.length ∧ s.1.length = x.ins.length ∧ ∀ j, j < s.2 → s.1.getD j 0 = (insV t x).getD j 0) (fun s => x.ins.length - s.2) (fun a => a = insV t x) ?_ ⟨Nat.zero_le _, by simp, fun j hj => absurd hj (Nat.not_lt_zero _)⟩ ?_
    · rintro k2 ⟨l, j⟩ nx2 ⟨hj, hl, hI2⟩ hnx2 hk2
      dsimp only at hj hl hI2
      refine ⟨fun q2 => ?_, fun q2 => ?_⟩
      · have q2 := lt_t.1 q2
        (try dsimp only at q2)
        obtain ⟨y, hy⟩ := get_lt q2
        have hyn := hg.ins y (List.mem_of_getElem? hy)
        have hv : (insV t x).getD j 0 = t.getD y 0 := by unfold insV; rw [List.getD, List.getElem?_map, hy]; rfl
        refine ⟨y, hy, _, getN ht hyn, q2, _, getN hl q2, by omega, hnx2 _ ⟨q2, by simpa using hl, fun j' hj' => ?_⟩ (by dsimp only; omega)⟩
        dsimp only at hj' ⊢
        rw [getD_set (by omega)]
        by_cases e : j = j'
        · subst e; rw [if_pos rfl, hv]
        · rw [if_neg e]; exact hI2 j' (by omega)
      · have q2 := lt_f.1 q2
        (try dsimp only at q2)
        refine hk2 l (List.ext_getElem? fun j' => ?_)
        by_cases e : j' < x.ins.length
        · rw [getN hl e, getN (l := insV t x) (n := x.ins.length) (by unfold insV; simp) e, hI2 j' (by omega)]
        · rw [List.getElem?_eq_none (by omega), List.getElem?_eq_none (by unfold insV; rw [List.length_map]; omega)]
    · rintro a rfl
      have fin : ∀ b, b = badB c t i → (b = true → (o.length + ([i] : List Nat).length) * 8 ≤ 2 ^ 47 ∧ i + 1 < 2 ^ 63 ∧ nx (o ++ [i], i + 1)) ∧ (b = false → i + 1 < 2 ^ 63 ∧ nx (o, i + 1)) := by
        rintro b rfl
        refine ⟨fun e => ⟨by simp only [List.length_singleton]; omega, by omega, hnx _ ⟨q, ?_⟩ (by dsimp only; omega)⟩, fun e => ⟨by omega, hnx _ ⟨q, ?_⟩ (by dsimp only; omega)⟩⟩
        · dsimp only
          rw [filt_step, if_pos e, hI]
        · dsimp only
          rw [filt_step, e, hI]
          simp
      refine joinI (free_vc ⟨fun q3 => ⟨_, getN ht q, fun q4 => ⟨by unfold insV; simp, ?_⟩, fun q4 => fin _ ?_⟩, fun q3 => fin _ ?_⟩)
      · have hf : isFree x.kind = false := by simpa using q3
        refine eval_node p hx hf (by unfold insV; simp) ⟨_, getN ht q, fin _ ?_⟩
        have q4 := ne_t.1 q4
        rw [Bool.eq_iff_iff]
        refine ⟨fun e => badB_t hx hf q4 (ne_t.1 e), fun e => ne_t.2 fun e2 => ?_⟩
        rw [badB_f hx (.inr (.inr e2))] at e
        cases e
      · exact (badB_f hx (.inr (.inl (ne_f.1 q4)))).symm
      · exact (badB_f hx (.inl (by simpa using q3))).symm
  · have q := lt_f.1 q
    (try dsimp only at q)
    have : i = c.nodes.length := by omega
    subst this
    exact hk o hI
end Go.Proofs.YtfhldkgelipnaaaDoor

namespace Go.Proofs.YtfhldkgelipnaaaDoor
open Go.Abs
set_option maxRecDepth 100000
/-- All vectors of 0 .. b. -/
def vecN (b : Nat) : Nat → List (List Nat)
  | 0 => [[]]
  | n + 1 => (vecN b n).flatMap fun v => (List.range (b + 1)).map fun x => x :: v
theorem mem_vecN (b : Nat) : ∀ (l : List Nat), (∀ x ∈ l, x ≤ b) → l ∈ vecN b l.length
  | [], _ => by simp [vecN]
  | x :: l, h => by
    have ih := mem_vecN b l fun y m => h y (by simp [m])
    have hx := h x (by simp)
    simp only [vecN, List.length_cons, List.mem_flatMap]
    exact ⟨l, ih, List.mem_map.2 ⟨x, List.mem_range.2 (by omega), rfl⟩⟩
/-- The value v stands blw the value w. -/
def blw (v w : Nat) : Bool := Nat.beq v 2 || Nat.beq v w
def blwL : List Nat → List Nat → Bool
  | [], [] => true
  | a :: l, b :: m => blw a b && blwL l m
  | _, _ => false
def allN (p : Nat → Bool) : List Nat → Bool
  | [] => true
  | a :: l => p a && allN p l
def okG (k o : Nat) (l : List Nat) : Bool := match gateL (Int.ofNat k) (Int.ofNat o) (l.map Int.ofNat) with
  | none => true
  | some (v, r) => decide (0 ≤ v) && r.all fun x => decide (0 ≤ x)
def gateChk (k m : Nat) : Bool := (vecN 2 m).all fun l => (List.range 3).all fun o =>
  okG k o l &&
  (!(gateR k o l).2.2 || (Nat.ble (gateR k o l).1 2 && Nat.beq (gateR k o l).2.1.length m && allN (fun v => Nat.ble v 2) (gateR k o l).2.1)) &&
  ((vecN 1 m).all fun t => !(blw o (evalN k t) && blwL l t) || ((gateR k o l).2.2 && blw (gateR k o l).1 (evalN k t) && blwL (gateR k o l).2.1 t)) &&
  (!(allN (fun v => Nat.ble v 1) l && (gateR k o l).2.2) || Nat.beq (gateR k o l).1 (evalN k l))
def binChk (k m : Nat) : Bool := (vecN 1 m).all fun t => Nat.ble (evalN k t) 1
theorem gate_chk : ∀ m, m < 4 → ∀ k, k < 12 → 1 ≤ k → Arity k m → gateChk k m = true := by decide +kernel
theorem bin_chk : ∀ m, m < 4 → ∀ k, k < 12 → 1 ≤ k → Arity k m → binChk k m = true := by decide +kernel
def Blw (v w : Nat) : Prop := v = 2 ∨ v = w
theorem blw_iff {v w : Nat} : blw v w = true ↔ Blw v w := by
  unfold blw Blw
  rw [Bool.or_eq_true, Nat.beq_eq, Nat.beq_eq]
theorem blwL_iff : ∀ {l t : List Nat}, blwL l t = true ↔ l.length = t.length ∧ ∀ j, Blw (l.getD j 0) (t.getD j 0)
  | [], [] => by simp [blwL, Blw]
  | [], _ :: _ => by simp [blwL]
  | _ :: _, [] => by simp [blwL]
  | a :: l, b :: t => by
    unfold blwL
    rw [Bool.and_eq_true, blw_iff, blwL_iff (l := l) (t := t), List.length_cons, List.length_cons]
    refine ⟨fun ⟨h1, h2, h3⟩ => ⟨by omega, fun j => ?_⟩, fun ⟨h1, h2⟩ => ⟨h2 0, by omega, fun j => h2 (j + 1)⟩⟩
    cases j with
    | zero => exact h1
    | succ j => exact h3 j
theorem allN_iff {p : Nat → Bool} : ∀ {l : List Nat}, allN p l = true ↔ ∀ x ∈ l, p x = true
  | [] => by simp [allN]
  | a :: l => by
    unfold allN
    rw [Bool.and_eq_true, allN_iff (l := l)]
    simp
/-- What is used of Gate. -/
structure GF (k o : Nat) (l : List Nat) : Prop where
  ok : GateOk k o l
  le : (gateR k o l).2.2 = true → (gateR k o l).1 ≤ 2 ∧ (gateR k o l).2.1.length = l.length ∧ ∀ v ∈ (gateR k o l).2.1, v ≤ 2
  sound : ∀ t : List Nat, t.length = l.length → (∀ x ∈ t, x ≤ 1) → Blw o (evalN k t) → (∀ j, Blw (l.getD j 0) (t.getD j 0)) → (gateR k o l).2.2 = true ∧ Blw (gateR k o l).1 (evalN k t) ∧ ∀ j, Blw ((gateR k o l).2.1.getD j 0) (t.getD j 0)
  full : (∀ x ∈ l, x ≤ 1) → (gateR k o l).2.2 = true → (gateR k o l).1 = evalN k l
theorem okG_ok {k o : Nat} {l : List Nat} (h : okG k o l = true) : GateOk k o l := by
  unfold okG at h
  intro v r e
  rw [e] at h
  simp only [Bool.and_eq_true, decide_eq_true_eq, List.all_eq_true] at h
  exact h
theorem gf {k o : Nat} {l : List Nat} (h1 : 1 ≤ k) (hk : k ≤ 11) (ha : Arity k l.length) (hl : l.length ≤ 3) (ho : o ≤ 2) (hle : ∀ x ∈ l, x ≤ 2) : GF k o l := by
  have h := gate_chk l.length (by omega) k (by omega) h1 ha
  unfold gateChk at h
  have h := List.all_eq_true.1 h l (mem_vecN 2 l hle)
  have h := List.all_eq_true.1 h o (List.mem_range.2 (by omega))
  rw [Bool.and_eq_true, Bool.and_eq_true, Bool.and_eq_true] at h
  obtain ⟨⟨⟨q1, q2⟩, q3⟩, q4⟩ := h
  refine ⟨okG_ok q1, fun e => ?_, fun t ht ht1 b1 b2 => ?_, fun b e => ?_⟩
  · rw [e, Bool.or_eq_true, Bool.and_eq_true, Bool.and_eq_true] at q2
    rcases q2 with q2 | ⟨⟨a1, a2⟩, a3⟩
    · cases q2
    · exact ⟨Nat.le_of_ble_eq_true a1, Nat.eq_of_beq_eq_true a2, fun v m => Nat.le_of_ble_eq_true (allN_iff.1 a3 v m)⟩
  · have h := List.all_eq_true.1 q3 t (by rw [← ht]; exact mem_vecN 1 t ht1)
    rw [blw_iff.2 b1, blwL_iff.2 ⟨ht.symm, b2⟩] at h
    rw [Bool.or_eq_true, Bool.and_eq_true, Bool.and_eq_true, blw_iff, blwL_iff] at h
    rcases h with h | ⟨⟨a1, a2⟩, a3⟩
    · cases h
    · exact ⟨a1, a2, a3.2⟩
  · rw [e, allN_iff.2 (fun x m => Nat.ble_eq_true_of_le (b x m))] at q4
    rw [Bool.or_eq_true] at q4
    rcases q4 with q4 | q4
    · cases q4
    · exact Nat.eq_of_beq_eq_true q4
theorem eval_bin {k : Nat} {t : List Nat} (h1 : 1 ≤ k) (hk : k ≤ 11) (ha : Arity k t.length) (hl : t.length ≤ 3) (hle : ∀ x ∈ t, x ≤ 1) : evalN k t ≤ 1 := by
  have h := bin_chk t.length (by omega) k (by omega) h1 ha
  unfold binChk at h
  exact Nat.le_of_ble_eq_true (List.all_eq_true.1 h t (mem_vecN 1 t hle))
end Go.Proofs.YtfhldkgelipnaaaDoor

namespace Go.Proofs.YtfhldkgelipnaaaDoor
open Go.Abs
set_option maxRecDepth 100000
theorem put_vc {c : Circ} (g : Good c) {v w : List Nat} {m x : Nat} {K : Bool × List Nat × List Nat → Prop} (hv : v.length = c.nodes.length) (hm : m < c.nodes.length) (hw : w.length ≤ 2 ^ 30)
    (hA : (x = 2 ∨ v.getD m 0 = x) → K (true, v, w))
    (hB : x ≠ 2 → v.getD m 0 = 2 → K (true, v.set m x, w ++ m :: (fanOf c m).map Ln.node))
    (hC : x ≠ 2 → v.getD m 0 ≠ 2 → v.getD m 0 ≠ x → K (false, v, w)) :
    work_put_wp c.nodes c.names c.mems c.outs (fanL c) c.nodes.length v w m x K := by
  have hfl := fan_len g hm
  have hg := getN hv hm
  unfold work_put_wp
  have rest : ∀ (v' : List Nat), v'.getD m 0 = x → v'.length = c.nodes.length → K (true, v', w ++ m :: (fanOf c m).map Ln.node) → ∃ x11, v'[m]? = some x11 ∧ ((!(eqN x11 x)) = true → K (false, v', w)) ∧ ((!(eqN x11 x)) = false → (w.length + ([m] : List Nat).length) * 8 ≤ 2 ^ 47 ∧ joinW (α := List Nat) (fun k23 => ∃ x24, (fanL c)[m]? = some x24 ∧ loopW (S := (List Nat) × Nat) (fun (v28, v29) nx32 => ((ltN v29 x24.length) = true → ∃ x33, x24[v29]? = some x33 ∧ (v28.length + ([x33.node] : List Nat).length) * 8 ≤ 2 ^ 47 ∧ v29 + 1 < 2 ^ 63 ∧ nx32 ((v28 ++ ([x33.node] : List Nat)), (v29 + 1))) ∧ ((ltN v29 x24.length) = false → k23 v28)) ((w ++ ([m] : List Nat)), 0)) (fun v20 => K (true, v', v20))) := by
    intro v' hx hl h
    refine ⟨_, getN hl hm, fun q => absurd hx (neq_t.1 q), fun _ => ⟨by simp only [List.length_singleton]; omega, ?_⟩⟩
    refine joinI ⟨_, fanL_get hm, ?_⟩
    refine loopW_intro (fun s => s.2 ≤ (fanOf c m).length ∧ s.1 = w ++ m :: ((fanOf c m).take s.2).map Ln.node) (fun s => (fanOf c m).length - s.2) ?_ ⟨Nat.zero_le _, by simp⟩
    rintro ⟨l, j⟩ nx ⟨hj, hI⟩ hnx
    dsimp only at hj hI
    refine ⟨fun q => ?_, fun q => ?_⟩
    · have q := lt_t.1 q
      (try dsimp only at q)
      obtain ⟨y, hy⟩ := get_lt q
      obtain ⟨l1, l2⟩ := List.getElem?_eq_some_iff.1 hy
      refine ⟨y, hy, by rw [hI]; simp only [List.length_append, List.length_cons, List.length_map, List.length_take, List.length_nil]; omega, by omega, hnx _ ⟨q, ?_⟩ (by dsimp only; omega)⟩
      dsimp only
      rw [hI, List.take_succ_eq_append_getElem l1, l2, List.map_append, List.append_assoc]
      rfl
    · have q := lt_f.1 q
      (try dsimp only at q)
      rw [hI, List.take_of_length_le q]
      exact h
  refine joinI ⟨fun q => ⟨fun _ => hA (.inl (eq_t.1 q)), (fun e => by cases e)⟩, fun q => ⟨hm, _, hg, ⟨fun e => hA (.inr (eq_t.1 e)), fun e => ?_⟩⟩⟩
  have q := eq_f.1 q
  have e := eq_f.1 e
  refine ⟨hm, _, hg, joinI ⟨fun e2 => ?_, fun e2 => ?_⟩⟩
  · have e2 := eq_t.1 e2
    refine rest _ ?_ (by rw [List.length_set]; exact hv) (hB q e2)
    rw [getD_set (by omega), if_pos rfl]
  · have e2 := eq_f.1 e2
    exact ⟨_, hg, fun _ => hC q e2 e, fun e3 => absurd (neq_f.1 e3) e⟩
def Ext (given : List Asg) (t : List Nat) : Prop := ∀ a ∈ given, t.getD a.net 0 = a.value
/-- At this gate nothing more follows. -/
def ClosedAt (c : Circ) (v : List Nat) (i : Nat) : Prop := ∀ x, c.nodes[i]? = some x → isFree x.kind = false →
  (gateR x.kind (v.getD i 0) (insV v x)).2.2 = true ∧ Blw (gateR x.kind (v.getD i 0) (insV v x)).1 (v.getD i 0) ∧ ∀ j, Blw ((gateR x.kind (v.getD i 0) (insV v x)).2.1.getD j 0) ((insV v x).getD j 0)
/-- The total assignments that have the given values. -/
def TotE (c : Circ) (given : List Asg) (t : List Nat) : Prop := (∃ b, TotOk c b t) ∧ Ext given t
structure CI (c : Circ) (given : List Asg) (but : Nat → Prop) (v w : List Nat) : Prop where
  len : v.length = c.nodes.length
  le : ∀ i, v.getD i 0 ≤ 2
  wlt : ∀ i ∈ w, i < c.nodes.length
  bnd : v.count 2 * 1001 + w.length ≤ 2 ^ 30
  snd : ∀ t, TotE c given t → ∀ i, Blw (v.getD i 0) (t.getD i 0)
  cls : ∀ i, i < c.nodes.length → but i ∨ i ∈ w ∨ ClosedAt c v i
theorem fan_reads {c : Circ} {i m : Nat} {x : Node} (hx : c.nodes[i]? = some x) (h : m ∈ x.ins) : i ∈ (fanOf c m).map Ln.node := by
  have h1 := fan_count c m i
  rw [ins_eq hx] at h1
  have h2 : 0 < x.ins.count m := List.count_pos_iff.2 h
  rw [← h1, List.countP_pos_iff] at h2
  obtain ⟨l, hl, e⟩ := h2
  exact List.mem_map.2 ⟨l, hl, by simpa using e⟩
theorem count_set2 {v : List Nat} {m x : Nat} (hm : m < v.length) (h2 : v.getD m 0 = 2) (hx : x ≠ 2) : (v.set m x).count 2 + 1 = v.count 2 := by
  induction v generalizing m with
  | nil => exact absurd hm (Nat.not_lt_zero _)
  | cons a v ih =>
    cases m with
    | zero =>
      have : a = 2 := h2
      subst this
      rw [List.set_cons_zero, List.count_cons, List.count_cons]
      simp [hx]
    | succ m =>
      have := ih (m := m) (by simpa using hm) h2
      rw [List.set_cons_succ, List.count_cons, List.count_cons]
      omega
theorem CI.put {c : Circ} (g : Good c) {given : List Asg} {but : Nat → Prop} {v w : List Nat} (I : CI c given but v w) {m x : Nat} (hm : m < c.nodes.length) (h2 : v.getD m 0 = 2) (hx : x ≠ 2) (hle : x ≤ 2) (hs : ∀ t, TotE c given t → t.getD m 0 = x) :
    CI c given but (v.set m x) (w ++ m :: (fanOf c m).map Ln.node) ∧ (v.set m x).count 2 * 1001 + (w ++ m :: (fanOf c m).map Ln.node).length ≤ v.count 2 * 1001 + w.length := by
  have hml : m < v.length := by rw [I.len]; exact hm
  have hfl := fan_len g hm
  have hc := count_set2 hml h2 hx
  have hb := I.bnd
  have hlen : (w ++ m :: (fanOf c m).map Ln.node).length = w.length + 1 + (fanOf c m).length := by simp; omega
  have key : (v.set m x).count 2 * 1001 + (w ++ m :: (fanOf c m).map Ln.node).length ≤ v.count 2 * 1001 + w.length := by rw [hlen]; omega
  refine ⟨⟨by rw [List.length_set]; exact I.len, fun i => ?_, fun i hi => ?_, by omega, fun t ht i => ?_, fun i hi => ?_⟩, key⟩
  · rw [getD_set hml]
    split
    · exact hle
    · exact I.le i
  · rcases List.mem_append.1 hi with hi | hi
    · exact I.wlt i hi
    · rcases List.mem_cons.1 hi with rfl | hi
      · exact hm
      · obtain ⟨l, hl, rfl⟩ := List.mem_map.1 hi
        exact fan_lt hl
  · rw [getD_set hml]
    by_cases e : m = i
    · subst e; rw [if_pos rfl]; exact .inr (hs t ht).symm
    · rw [if_neg e]; exact I.snd t ht i
  · rcases I.cls i hi with q | q | q
    · exact .inl q
    · exact .inr (.inl (List.mem_append_left _ q))
    · by_cases e : m = i
      · subst e; exact .inr (.inl (by simp))
      · obtain ⟨y, hy⟩ := get_lt hi
        by_cases e2 : m ∈ y.ins
        · exact .inr (.inl (List.mem_append_right _ (List.mem_cons_of_mem _ (fan_reads hy e2))))
        · refine .inr (.inr fun y' hy' hf => ?_)
          rw [hy] at hy'; cases hy'
          have e3 : insV (v.set m x) y = insV v y := by
            unfold insV
            refine List.map_congr_left fun k hk => ?_
            rw [getD_set hml, if_neg (fun (q2 : m = k) => e2 (by rw [q2]; exact hk))]
          rw [e3, getD_set hml, if_neg e]
          exact q y hy hf
end Go.Proofs.YtfhldkgelipnaaaDoor
