/-
  I1: parts of the proof.
-/
import Derived.Test.YtfhldkgelipnaaaDoorIs44
namespace Go.Proofs.YtfhldkgelipnaaaDoor
open Go.Abs
set_option maxRecDepth 100000
set_option maxHeartbeats 8000000
def implies_Plain_wp (p0 : Circ) (K : Nat → Prop) : Prop :=
  netlists_Check_wp p0 (fun r1 => ((neN r1 0) = true → K r1) ∧ ((neN r1 0) = false → joinW (α := Bool) (fun k3 => ((ltN 0 p0.mems.length) = true → k3 true) ∧ ((ltN 0 p0.mems.length) = false → netlists_Of_wp p0 ([12, 13, 15] : (List Nat)) (fun r4 => k3 (ltN 0 r4.length)))) (fun v2 => (v2 = true → K 7) ∧ (v2 = false → K 0))))
theorem implies_Plain_walk {p0 : Circ} {K : Nat → Prop} (hm : implies_Plain_wp p0 K) {h0 : Heap} (hB : HasB vars h0) : ∃ r, K r ∧ CallD Tryd.prog NG 11 ⟨[encCirc p0]⟩ h0 (i64 r) h0 := by
  unfold implies_Plain_wp at hm
  refine fnW hM Tryd.func11 rfl (hP _ _ rfl Tryd.func11) (Nat.le_of_ble_eq_true rfl) hB (enc := i64) (fun r => PureV.flat rfl) fun O => ?_; conv=>whnf
  apply Cs;((conv=>whnf);repeat (first|apply Cs|apply Hs|apply Hx);conv=>whnf)
  refine NewG.frz rfl ?_; ((conv=>whnf);repeat (first|apply Cs|apply Hs|apply Hx);conv=>whnf)
  refine ⟨_, (rfl : aread _ _ _ _ = some _), ?_⟩; ((conv=>whnf);repeat (first|apply Hs|apply Hx);conv=>whnf)
  obtain ⟨r1, hm, hcall⟩ := netlists_Check_walk hm O.has
  refine ⟨_, _, hcall, ?_⟩; ((conv=>whnf);repeat (first|apply Cs|apply Hs|apply Hx);conv=>whnf)
  refine ⟨_, rfl, fun hc => ?_, fun hc => ?_⟩
  ·replace hm := hm.1 hc
   apply Cs;((conv=>whnf);repeat (first|apply Cs|apply Hs|apply Hx);conv=>whnf)
   exact ⟨r1, hm, O.ext, fun h2 F => VLe.refl _ _⟩
  ·replace hm := hm.2 hc
   apply Cs;conv=>whnf
   apply Cs;conv=>whnf
   refine CodeS.joinWS hm (nn := 20) (σ := Bool × Unit) (fun s => s.1) (fun (v2, _) h => Own vars h0 [] h ∧ True) (fun (v2, _) => [(19, (.bool v2))]) rfl (fun hm' => ?_) ?_
   ·replace hm := hm'
    apply Cs;((conv=>whnf);repeat (first|apply Cs|apply Hs|apply Hx);conv=>whnf)
    refine ⟨_, (rfl : aread _ _ _ _ = some _), ?_⟩; ((conv=>whnf);repeat (first|apply Hs|apply Hx);conv=>whnf)
    refine lenM (s := 3) (enc := encMem) (l := p0.mems) rfl rfl ?_; ((conv=>whnf);repeat (first|apply Hs|apply Hx);conv=>whnf)
    refine ⟨_, rfl, fun hc => ?_, fun hc => ?_⟩
    ·replace hm := hm.1 hc; ((conv=>whnf);repeat (first|apply Hs|apply Hx);conv=>whnf)
     exact ⟨(true, ()), hm, ⟨O, trivial⟩, VLe.refl _ _, trivial⟩
    ·replace hm := hm.2 hc; ((conv=>whnf);repeat (first|apply Hs|apply Hx);conv=>whnf)
     refine ⟨_, (rfl : aread _ _ _ _ = some _), ?_⟩; ((conv=>whnf);repeat (first|apply Hs|apply Hx);conv=>whnf)
     refine NewG.frz rfl ?_; ((conv=>whnf);repeat (first|apply Hs|apply Hx);conv=>whnf)
     obtain ⟨r4, hm, hcall⟩ := netlists_Of_walk hm O.has
     refine ⟨_, _, hcall, ?_⟩; ((conv=>whnf);repeat (first|apply Hs|apply Hx);conv=>whnf)
     refine lenM (s := 1) (enc := i64) (l := r4) rfl rfl ?_; ((conv=>whnf);repeat (first|apply Hs|apply Hx);conv=>whnf)
     exact ⟨((ltN 0 r4.length), ()), hm, ⟨O, trivial⟩, VLe.refl _ _, trivial⟩
   ·clear hm; rintro ⟨v2, _⟩ base h hm ⟨O, _⟩
    ((conv=>whnf);repeat (first|apply Cs|apply Hs|apply Hx);conv=>whnf)
    refine ⟨_, rfl, fun hc => ?_, fun hc => ?_⟩
    ·replace hm := hm.1 hc
     apply Cs;((conv=>whnf);repeat (first|apply Cs|apply Hs|apply Hx);conv=>whnf)
     exact ⟨7, hm, O.ext, fun h2 F => VLe.refl _ _⟩
    ·replace hm := hm.2 hc
     apply Cs;((conv=>whnf);repeat (first|apply Cs|apply Hs|apply Hx);conv=>whnf)
     exact ⟨0, hm, O.ext, fun h2 F => VLe.refl _ _⟩
def implies_free_wp (p0 : Nat) (K : Bool → Prop) : Prop :=
  ((eqN p0 0) = true → K true) ∧ ((eqN p0 0) = false → K (eqN p0 14))
theorem implies_free_walk {p0 : Nat} {K : Bool → Prop} (hm : implies_free_wp p0 K) {h0 : Heap} (hB : HasB vars h0) : ∃ r, K r ∧ CallD Tryd.prog NG 28 ⟨[n8 p0]⟩ h0 (Value.bool r) h0 := by
  unfold implies_free_wp at hm
  refine fnW hM Tryd.func28 rfl (hP _ _ rfl Tryd.func28) (Nat.le_of_ble_eq_true rfl) hB (enc := Value.bool) (fun r => PureV.flat rfl) fun O => ?_; conv=>whnf
  apply Cs;((conv=>whnf);repeat (first|apply Cs|apply Hs|apply Hx);conv=>whnf)
  refine ⟨_, rfl, fun hc => ?_, fun hc => ?_⟩
  ·replace hm := hm.1 hc; ((conv=>whnf);repeat (first|apply Cs|apply Hs|apply Hx);conv=>whnf)
   exact ⟨true, hm, O.ext, fun h2 F => VLe.refl _ _⟩
  ·replace hm := hm.2 hc; ((conv=>whnf);repeat (first|apply Cs|apply Hs|apply Hx);conv=>whnf)
   exact ⟨(eqN p0 14), hm, O.ext, fun h2 F => VLe.refl _ _⟩
def work_put_wp (nodes : List Node) (names : List ByteArray) (mems : List Memo) (outs : List Nat) (fan : List (List Ln)) (nv : Nat) (vals : List Nat) (wait : List Nat) (n : Nat) (x : Nat) (K : (Bool × (List Nat) × (List Nat)) → Prop) : Prop :=
  joinW (α := Bool) (fun k4 => ((eqN x 2) = true → k4 true) ∧ ((eqN x 2) = false → n < nv ∧ ∃ x5, vals[n]? = some x5 ∧ k4 (eqN x5 x))) (fun v1 => (v1 = true → K (true, vals, wait)) ∧ (v1 = false → n < nv ∧ ∃ x6, vals[n]? = some x6 ∧ joinW (α := (List Nat)) (fun k10 => ((eqN x6 2) = true → k10 (vals.set n x)) ∧ ((eqN x6 2) = false → k10 vals)) (fun v7 => ∃ x11, v7[n]? = some x11 ∧ ((!(eqN x11 x)) = true → K (false, v7, wait)) ∧ ((!(eqN x11 x)) = false → (wait.length + ([n] : (List Nat)).length) * 8 ≤ 2 ^ 47 ∧ joinW (α := (List Nat)) (fun k23 => ∃ x24, fan[n]? = some x24 ∧ loopW (S := ((List Nat) × Nat)) (fun (v28, v29) nx32 => ((ltN v29 x24.length) = true → ∃ x33, x24[v29]? = some x33 ∧ (v28.length + ([x33.node] : (List Nat)).length) * 8 ≤ 2 ^ 47 ∧ v29 + 1 < 2 ^ 63 ∧ nx32 ((v28 ++ ([x33.node] : (List Nat))), (v29 + 1))) ∧ ((ltN v29 x24.length) = false → k23 v28)) ((wait ++ ([n] : (List Nat))), 0)) (fun v20 => K (true, v7, v20))))))
theorem work_put_walk {nodes : List Node} {names : List ByteArray} {mems : List Memo} {outs : List Nat} {fan : List (List Ln)} {nv : Nat} {vals : List Nat} {wait : List Nat} {n : Nat} {x : Nat} {gw : Nat} {gv : Nat} {a : Option Nat} {pre : List Value} {off : Nat} {L : List Slot} {K : (Bool × (List Nat) × (List Nat)) → Prop} (hm : work_put_wp nodes names mems outs fan nv vals wait n x K) {h0 h : Heap} (ha : a = none → wait = []) (hp : pre.length = off) (O : Own vars h0 (((some gw), .cells [((encL 4 encNode) nodes), ((encL 1 Value.string) names), ((encL 3 encMem) mems), ((encL 1 i64) outs), ((encL 1 (encL 2 encLn)) fan), (.slice (some ⟨gv, 0, none⟩) nv nv), (tailV 1 a off (wait.map i64))] false) :: ((some gv), .cells (flatC (vals.map n8)) false) :: (a, .cells (pre ++ flatC (wait.map i64)) false) :: L) h) : ∃ v h', CallD Tryd.prog NG 27 ⟨[(.pointer (some ⟨gw, 0, none⟩)), (i64 n), (n8 x)]⟩ h v h' ∧ ∃ (u0 : Bool) (w0 : (List Nat)) (w4 : (List Nat)) (b1 : Option Nat) (b2 : (List Value)) (b3 : Nat), K (u0, w0, w4) ∧ v = (Value.bool u0) ∧ (b1 = none → w4 = []) ∧ (b2.length = b3) ∧ Own vars h0 (((some gw), .cells [((encL 4 encNode) nodes), ((encL 1 Value.string) names), ((encL 3 encMem) mems), ((encL 1 i64) outs), ((encL 1 (encL 2 encLn)) fan), (.slice (some ⟨gv, 0, none⟩) nv nv), (tailV 1 b1 b3 (w4.map i64))] false) :: ((some gv), .cells (flatC (w0.map n8)) false) :: (b1, .cells (b2 ++ flatC (w4.map i64)) false) :: L) h' ∧ True := by
  unfold work_put_wp at hm
  refine fnG hM Tryd.func27 rfl (hP _ _ rfl Tryd.func27) (Nat.le_of_ble_eq_true rfl) (Q := fun v h' => ∃ (u0 : Bool) (w0 : (List Nat)) (w4 : (List Nat)) (b1 : Option Nat) (b2 : (List Value)) (b3 : Nat), K (u0, w0, w4) ∧ v = (Value.bool u0) ∧ (b1 = none → w4 = []) ∧ (b2.length = b3) ∧ Own vars h0 (((some gw), .cells [((encL 4 encNode) nodes), ((encL 1 Value.string) names), ((encL 3 encMem) mems), ((encL 1 i64) outs), ((encL 1 (encL 2 encLn)) fan), (.slice (some ⟨gv, 0, none⟩) nv nv), (tailV 1 b1 b3 (w4.map i64))] false) :: ((some gv), .cells (flatC (w0.map n8)) false) :: (b1, .cells (b2 ++ flatC (w4.map i64)) false) :: L) h' ∧ True) ?_; conv=>whnf
  apply Cs;conv=>whnf
  apply Cs;((conv=>whnf);repeat (first|apply Hs|apply Hx);conv=>whnf)
  apply Cs;conv=>whnf
  refine CodeS.joinWS hm (nn := 65) (σ := Bool × Unit) (fun s => s.1) (fun (v1, _) h => (a = none → wait = []) ∧ (pre.length = off) ∧ Own vars h0 (((some gw), .cells [((encL 4 encNode) nodes), ((encL 1 Value.string) names), ((encL 3 encMem) mems), ((encL 1 i64) outs), ((encL 1 (encL 2 encLn)) fan), (.slice (some ⟨gv, 0, none⟩) nv nv), (tailV 1 a off (wait.map i64))] false) :: ((some gv), .cells (flatC (vals.map n8)) false) :: (a, .cells (pre ++ flatC (wait.map i64)) false) :: L) h ∧ True) (fun (v1, _) => [(0, (.pointer (some ⟨gw, 0, none⟩))), (1, (i64 n)), (2, (n8 x)), (21, (.bool v1))]) rfl (fun hm' => ?_) ?_
  ·replace hm := hm'
   apply Cs;((conv=>whnf);repeat (first|apply Cs|apply Hs|apply Hx);conv=>whnf)
   refine ⟨_, rfl, fun hc => ?_, fun hc => ?_⟩
   ·replace hm := hm.1 hc; ((conv=>whnf);repeat (first|apply Hs|apply Hx);conv=>whnf)
    exact ⟨(true, ()), hm, ⟨ha, hp, O, trivial⟩, VLe.refl _ _, VLe.refl _ _, VLe.refl _ _, VLe.refl _ _, trivial⟩
   ·replace hm := hm.2 hc; ((conv=>whnf);repeat (first|apply Hs|apply Hx);conv=>whnf)
    refine ⟨_, loadK rfl (O.at (.head _)) rfl rfl, ?_⟩; ((conv=>whnf);repeat (first|apply Hs|apply Hx);conv=>whnf)
    obtain ⟨hj, x5, hx5, hm⟩ := hm
    refine indexK (s := 1) (j := n) rfl rfl rfl rfl hj ?_; ((conv=>whnf);repeat (first|apply Hs|apply Hx);conv=>whnf)
    refine ⟨_, loadK rfl (O.at (.tail _ (.head _))) rfl (cell_map (enc := n8) (s := 1) (k := 0) (fun _ => rfl) hx5 rfl), ?_⟩; ((conv=>whnf);repeat (first|apply Hs|apply Hx);conv=>whnf)
    exact ⟨((eqN x5 x), ()), hm, ⟨ha, hp, O, trivial⟩, VLe.refl _ _, VLe.refl _ _, VLe.refl _ _, VLe.refl _ _, trivial⟩
  ·clear hm; rintro ⟨v1, _⟩ base h hm ⟨ha2, hp3, O, _⟩
   ((conv=>whnf);repeat (first|apply Cs|apply Hs|apply Hx);conv=>whnf)
   refine ⟨_, rfl, fun hc => ?_, fun hc => ?_⟩
   ·replace hm := hm.1 hc
    apply Cs;((conv=>whnf);repeat (first|apply Cs|apply Hs|apply Hx);conv=>whnf)
    exact ⟨true, vals, wait, a, pre, off, hm, rfl, ha2, hp3, O, trivial⟩
   ·replace hm := hm.2 hc
    apply Cs;((conv=>whnf);repeat (first|apply Cs|apply Hs|apply Hx);conv=>whnf)
    refine ⟨_, loadK rfl (O.at (.head _)) rfl rfl, ?_⟩; ((conv=>whnf);repeat (first|apply Hs|apply Hx);conv=>whnf)
    obtain ⟨hj, x6, hx6, hm⟩ := hm
    refine indexK (s := 1) (j := n) rfl rfl rfl rfl hj ?_; ((conv=>whnf);repeat (first|apply Hs|apply Hx);conv=>whnf)
    refine fnG hM Tryd.func44 rfl (hP _ _ rfl Tryd.func44) (Nat.le_of_ble_eq_true rfl) ?_; conv=>whnf
    apply Cs;conv=>whnf
    apply Cs;((conv=>whnf);repeat (first|apply Hs|apply Hx);conv=>whnf)
    refine CodeS.joinWS hm (nn := 17) (σ := (List Nat) × Unit) (fun s => s.1) (fun (v7, _) h => (a = none → wait = []) ∧ (pre.length = off) ∧ Own vars h0 (((some gv), .cells (flatC (v7.map n8)) false) :: ((some gw), .cells [((encL 4 encNode) nodes), ((encL 1 Value.string) names), ((encL 3 encMem) mems), ((encL 1 i64) outs), ((encL 1 (encL 2 encLn)) fan), (.slice (some ⟨gv, 0, none⟩) nv nv), (tailV 1 a off (wait.map i64))] false) :: (a, .cells (pre ++ flatC (wait.map i64)) false) :: L) h ∧ True) (fun (v7, _) => [(0, (.pointer (some ⟨gv, 0 + n * 1 + 0, none⟩))), (1, (n8 x))]) rfl (fun hm' => ?_) ?_
    ·replace hm := hm'
     apply Cs;((conv=>whnf);repeat (first|apply Cs|apply Hs|apply Hx);conv=>whnf)
     refine ⟨_, loadK rfl (O.at (.tail _ (.head _))) rfl (cell_map (enc := n8) (s := 1) (k := 0) (fun _ => rfl) hx6 rfl), ?_⟩; ((conv=>whnf);repeat (first|apply Cs|apply Hs|apply Hx);conv=>whnf)
     refine ⟨_, rfl, fun hc => ?_, fun hc => ?_⟩
     ·replace hm := hm.1 hc
      apply Cs;((conv=>whnf);repeat (first|apply Cs|apply Hs|apply Hx);conv=>whnf)
      refine O.store (n := 1) (.tail _ (.head _)) rfl rfl rfl rfl (el_le (enc := n8) (s := 1) (k := 0) (n := 1) (fun _ => rfl) (lt_of_get hx6) (Nat.le_of_ble_eq_true rfl)) rfl (splice_all (enc := n8) (s := 1) (fun _ => rfl) (lt_of_get hx6) (x := x) rfl) fun h O => ?_; ((conv=>whnf);repeat (first|apply Hs|apply Hx);conv=>whnf)
      exact ⟨((vals.set n x), ()), hm, ⟨ha2, hp3, (Own.selT [((some gw), .cells [((encL 4 encNode) nodes), ((encL 1 Value.string) names), ((encL 3 encMem) mems), ((encL 1 i64) outs), ((encL 1 (encL 2 encLn)) fan), (.slice (some ⟨gv, 0, none⟩) nv nv), (tailV 1 a off (wait.map i64))] false), ((some gv), .cells (flatC ((vals.set n x).map n8)) false), (a, .cells (pre ++ flatC (wait.map i64)) false)] O [1, 0, 2] (by decide)), trivial⟩, VLe.refl _ _, VLe.refl _ _, trivial⟩
     ·replace hm := hm.2 hc
      apply Cs;((conv=>whnf);repeat (first|apply Cs|apply Hs|apply Hx);conv=>whnf)
      exact ⟨(vals, ()), hm, ⟨ha2, hp3, (Own.selT [((some gw), .cells [((encL 4 encNode) nodes), ((encL 1 Value.string) names), ((encL 3 encMem) mems), ((encL 1 i64) outs), ((encL 1 (encL 2 encLn)) fan), (.slice (some ⟨gv, 0, none⟩) nv nv), (tailV 1 a off (wait.map i64))] false), ((some gv), .cells (flatC (vals.map n8)) false), (a, .cells (pre ++ flatC (wait.map i64)) false)] O [1, 0, 2] (by decide)), trivial⟩, VLe.refl _ _, VLe.refl _ _, trivial⟩
    ·clear hm; rintro ⟨v7, _⟩ base h hm ⟨ha8, hp9, O, _⟩
     ((conv=>whnf);repeat (first|apply Cs|apply Hs|apply Hx);conv=>whnf)
     obtain ⟨x11, hx11, hm⟩ := hm
     refine ⟨_, loadK rfl (O.at (.head _)) rfl (cell_map (enc := n8) (s := 1) (k := 0) (fun _ => rfl) hx11 rfl), ?_⟩; ((conv=>whnf);repeat (first|apply Cs|apply Hs|apply Hx);conv=>whnf)
     refine ⟨_, rfl, fun hc => ?_, fun hc => ?_⟩
     ·replace hm := hm.1 hc
      apply Cs;((conv=>whnf);repeat (first|apply Cs|apply Hs|apply Hx);conv=>whnf)
      exact ⟨false, v7, wait, a, pre, off, hm, rfl, ha8, hp9, (Own.selT [((some gv), .cells (flatC (v7.map n8)) false), ((some gw), .cells [((encL 4 encNode) nodes), ((encL 1 Value.string) names), ((encL 3 encMem) mems), ((encL 1 i64) outs), ((encL 1 (encL 2 encLn)) fan), (.slice (some ⟨gv, 0, none⟩) nv nv), (tailV 1 a off (wait.map i64))] false), (a, .cells (pre ++ flatC (wait.map i64)) false)] O [1, 0, 2] (by decide)), trivial⟩
     ·replace hm := hm.2 hc
      apply Cs;((conv=>whnf);repeat (first|apply Cs|apply Hs|apply Hx);conv=>whnf)
      refine ⟨_, loadK rfl (O.at (.tail _ (.head _))) rfl rfl, ?_⟩; ((conv=>whnf);repeat (first|apply Hs|apply Hx);conv=>whnf)
      refine NewG.frz rfl ?_; ((conv=>whnf);repeat (first|apply Hs|apply Hx);conv=>whnf)
      refine Own.appendT (enc := i64) (l := wait) (new := ([n] : (List Nat))) (s := 1) (b := 8) hp9 O (.tail _ (.tail _ (.head _))) ha8 rfl rfl rfl rfl rfl rfl rfl rfl (YOk.fl rfl) (fun _ => rfl) (fun _ => rfl) (by decide) hm.1 fun a12 q14 o15 h hp16 ha13 O => ?_; ((conv=>whnf);repeat (first|apply Hs|apply Hx);conv=>whnf)
      replace hm := hm.2
      refine O.store (n := 1) (cs' := [((encL 4 encNode) nodes), ((encL 1 Value.string) names), ((encL 3 encMem) mems), ((encL 1 i64) outs), ((encL 1 (encL 2 encLn)) fan), (.slice (some ⟨gv, 0, none⟩) nv nv), (tailV 1 a12 o15 ((wait ++ ([n] : (List Nat))).map i64))]) (.tail _ (.head _)) rfl rfl rfl rfl (Nat.le_of_ble_eq_true rfl) rfl rfl fun h O => ?_; ((conv=>whnf);repeat (first|apply Hs|apply Hx);conv=>whnf)
      refine CodeS.joinWS hm (nn := 65) (σ := (List Nat) × (Option Nat × (List Value) × Nat)) (fun s => s.1) (fun (v20, (a17, a18, a19)) h => (a17 = none → v20 = []) ∧ (a18.length = a19) ∧ Own vars h0 (((some gw), .cells [((encL 4 encNode) nodes), ((encL 1 Value.string) names), ((encL 3 encMem) mems), ((encL 1 i64) outs), ((encL 1 (encL 2 encLn)) fan), (.slice (some ⟨gv, 0, none⟩) nv nv), (tailV 1 a17 a19 (v20.map i64))] false) :: ((some gv), .cells (flatC (v7.map n8)) false) :: (a17, .cells (a18 ++ flatC (v20.map i64)) false) :: L) h ∧ True) (fun (v20, (a17, a18, a19)) => []) rfl (fun hm' => ?_) ?_
      ·replace hm := hm'
       apply Cs;((conv=>whnf);repeat (first|apply Cs|apply Hs|apply Hx);conv=>whnf)
       refine ⟨_, loadK rfl (O.at (.tail _ (.head _))) rfl rfl, ?_⟩; ((conv=>whnf);repeat (first|apply Hs|apply Hx);conv=>whnf)
       obtain ⟨x24, hx24, hm⟩ := hm
       refine flAtM (s := 1) (enc := (encL 2 encLn)) (j := n) rfl rfl rfl rfl hx24 ?_; ((conv=>whnf);repeat (first|apply Hs|apply Hx);conv=>whnf)
       refine ⟨_, (rfl : aread _ _ _ _ = some _), ?_⟩; ((conv=>whnf);repeat (first|apply Hs|apply Hx);conv=>whnf)
       refine lenM (s := 2) (enc := encLn) (l := x24) rfl rfl ?_; ((conv=>whnf);repeat (first|apply Cs|apply Hs|apply Hx);conv=>whnf)
       refine loopWK hM (by kernel_rfl) (nn := 65) (S := ((List Nat) × Nat)) (σ := ((List Nat) × Nat) × (Option Nat × (List Value) × Nat)) (fun s => s.1) (fun ((v28, v29), (a25, a26, a27)) h => (a25 = none → v28 = []) ∧ (a26.length = a27) ∧ Own vars h0 (((some gw), .cells [((encL 4 encNode) nodes), ((encL 1 Value.string) names), ((encL 3 encMem) mems), ((encL 1 i64) outs), ((encL 1 (encL 2 encLn)) fan), (.slice (some ⟨gv, 0, none⟩) nv nv), (tailV 1 a25 a27 (v28.map i64))] false) :: ((some gv), .cells (flatC (v7.map n8)) false) :: (a25, .cells (a26 ++ flatC (v28.map i64)) false) :: L) h ∧ True) (fun ((v28, v29), (a25, a26, a27)) => [(0, (.pointer (some ⟨gw, 0, none⟩))), (47, ((encL 2 encLn) x24)), (48, (i64 x24.length)), (49, (i64 v29))]) rfl (((wait ++ ([n] : (List Nat))), 0), (a12, q14, o15)) hm ⟨ha13, hp16, (Own.selT [((some gv), .cells (flatC (v7.map n8)) false), ((some gw), .cells [((encL 4 encNode) nodes), ((encL 1 Value.string) names), ((encL 3 encMem) mems), ((encL 1 i64) outs), ((encL 1 (encL 2 encLn)) fan), (.slice (some ⟨gv, 0, none⟩) nv nv), (tailV 1 a12 o15 ((wait ++ ([n] : (List Nat))).map i64))] false), (a12, .cells (q14 ++ flatC ((wait ++ ([n] : (List Nat))).map i64)) false)] O [1, 0, 2] (by decide)), trivial⟩ ⟨VLe.refl _ _, VLe.refl _ _, VLe.refl _ _, VLe.refl _ _, trivial⟩ ?_
       clear hm; rintro ⟨⟨v28, v29⟩, ⟨a25, a26, a27⟩⟩ nx32 base h hm ⟨ha30, hp31, O, _⟩
       ((conv=>whnf);repeat (first|apply Cs|apply Hs|apply Hx);conv=>whnf)
       refine ⟨_, rfl, fun hc => ?_, fun hc => ?_⟩
       ·replace hm := hm.1 hc
        apply Cs;((conv=>whnf);repeat (first|apply Cs|apply Hs|apply Hx);conv=>whnf)
        obtain ⟨x33, hx33, hm⟩ := hm
        refine flAtM (s := 2) (enc := encLn) (j := v29) rfl rfl rfl rfl hx33 ?_; ((conv=>whnf);repeat (first|apply Hs|apply Hx);conv=>whnf)
        refine ⟨_, (rfl : aread _ _ _ _ = some _), ?_⟩; ((conv=>whnf);repeat (first|apply Hs|apply Hx);conv=>whnf)
        refine O.new (anew_alloc (l := [(i64 0), (i64 0)]) rfl rfl rfl) fun g34 h O => ?_; ((conv=>whnf);repeat (first|apply Hs|apply Hx);conv=>whnf)
        refine O.store (n := 2) (cs' := [(i64 x33.node), (i64 x33.pin)]) (.head _) rfl rfl rfl rfl (Nat.le_of_ble_eq_true rfl) rfl rfl fun h O => ?_; ((conv=>whnf);repeat (first|apply Cs|apply Hs|apply Hx);conv=>whnf)
        refine ⟨_, loadK rfl (O.at (.tail _ (.head _))) rfl rfl, ?_⟩; ((conv=>whnf);repeat (first|apply Hs|apply Hx);conv=>whnf)
        first | refine ⟨.inr (.inr (loadK rfl (O.at (.tail _ (.head _))) rfl rfl)), ?_⟩ | refine ⟨.inr (.inl (by kernel_rfl)), ?_⟩
        ((conv=>whnf);repeat (first|apply Cs|apply Hs|apply Hx);conv=>whnf)
        refine ⟨_, loadK rfl (O.at (.head _)) rfl rfl, ?_⟩; ((conv=>whnf);repeat (first|apply Hs|apply Hx);conv=>whnf)
        refine ⟨.inl rfl, ?_⟩; ((conv=>whnf);repeat (first|apply Hs|apply Hx);conv=>whnf)
        refine O.buildLX (l := ([x33.node] : (List Nat))) (enc := i64) (s := 1) (z := (i64 0)) rfl rfl (by kernel_rfl) (by kernel_rfl) rfl rfl rfl rfl (fun _ => rfl) fun g36 h O => ?_; ((conv=>whnf);repeat (first|apply Hs|apply Hx);conv=>whnf)
        refine Own.appendT (enc := i64) (l := v28) (new := ([x33.node] : (List Nat))) (s := 1) (b := 8) hp31 O (.tail _ (.tail _ (.tail _ (.tail _ (.head _))))) ha30 rfl rfl rfl rfl rfl rfl rfl rfl (YOk.own (O.at (.head _)) rfl (fun _ => rfl) rfl) (fun _ => rfl) (fun _ => rfl) (by decide) hm.1 fun a38 q40 o41 h hp42 ha39 O => ?_; ((conv=>whnf);repeat (first|apply Hs|apply Hx);conv=>whnf)
        refine ⟨.inl rfl, ?_⟩; ((conv=>whnf);repeat (first|apply Hs|apply Hx);conv=>whnf)
        replace hm := hm.2
        refine O.store (n := 1) (cs' := [((encL 4 encNode) nodes), ((encL 1 Value.string) names), ((encL 3 encMem) mems), ((encL 1 i64) outs), ((encL 1 (encL 2 encLn)) fan), (.slice (some ⟨gv, 0, none⟩) nv nv), (tailV 1 a38 o41 ((v28 ++ ([x33.node] : (List Nat))).map i64))]) (.tail _ (.tail _ (.head _))) rfl rfl rfl rfl (Nat.le_of_ble_eq_true rfl) rfl rfl fun h O => ?_; ((conv=>whnf);repeat (first|apply Hs|apply Hx);conv=>whnf)
        refine ⟨.inl rfl, ?_⟩; ((conv=>whnf);repeat (first|apply Hs|apply Hx);conv=>whnf)
        apply Cs;((conv=>whnf);repeat (first|apply Cs|apply Hs|apply Hx);conv=>whnf)
        refine ⟨_, addK (a := v29) (b := 1) rfl rfl hm.1, ?_⟩; ((conv=>whnf);repeat (first|apply Hs|apply Hx);conv=>whnf)
        replace hm := hm.2
        exact ⟨(((v28 ++ ([x33.node] : (List Nat))), (v29 + 1)), (a38, q40, o41)), hm, ⟨ha39, hp42, (Own.selT [((some g36), .cells (flatC (([x33.node] : (List Nat)).map i64)) false), ((some g34), .cells [(i64 x33.node), (i64 x33.pin)] false), ((some gw), .cells [((encL 4 encNode) nodes), ((encL 1 Value.string) names), ((encL 3 encMem) mems), ((encL 1 i64) outs), ((encL 1 (encL 2 encLn)) fan), (.slice (some ⟨gv, 0, none⟩) nv nv), (tailV 1 a38 o41 ((v28 ++ ([x33.node] : (List Nat))).map i64))] false), ((some gv), .cells (flatC (v7.map n8)) false), (a38, .cells (q40 ++ flatC ((v28 ++ ([x33.node] : (List Nat))).map i64)) false)] O [2, 3, 4] (by decide)), trivial⟩, VLe.refl _ _, VLe.refl _ _, VLe.refl _ _, VLe.refl _ _, trivial⟩
       ·replace hm := hm.2 hc
        apply Cs;((conv=>whnf);repeat (first|apply Cs|apply Hs|apply Hx);conv=>whnf)
        exact ⟨(v28, (a25, a26, a27)), hm, ⟨ha30, hp31, O, trivial⟩, trivial⟩
      ·clear hm; rintro ⟨v20, ⟨a17, a18, a19⟩⟩ base h hm ⟨ha21, hp22, O, _⟩
       ((conv=>whnf);repeat (first|apply Cs|apply Hs|apply Hx);conv=>whnf)
       exact ⟨true, v7, v20, a17, a18, a19, hm, rfl, ha21, hp22, O, trivial⟩
def work_gate_wp (nodes : List Node) (names : List ByteArray) (mems : List Memo) (outs : List Nat) (fan : List (List Ln)) (nv : Nat) (vals : List Nat) (wait : List Nat) (n : Nat) (K : (Bool × (List Nat) × (List Nat)) → Prop) : Prop :=
  ∃ x1, nodes[n]? = some x1 ∧ 1 * x1.ins.length ≤ 2 ^ 48 ∧ x1.ins.length < 2 ^ 63 ∧ joinW (α := (List Nat)) (fun k9 => loopW (S := ((List Nat) × Nat)) (fun (v10, v11) nx14 => ((ltN v11 x1.ins.length) = true → ∃ x15, x1.ins[v11]? = some x15 ∧ x15 < nv ∧ ∃ x16, vals[x15]? = some x16 ∧ v11 < x1.ins.length ∧ ∃ x17, v10[v11]? = some x17 ∧ v11 + 1 < 2 ^ 63 ∧ nx14 ((v10.set v11 x16), (v11 + 1))) ∧ ((ltN v11 x1.ins.length) = false → k9 v10)) ((List.replicate x1.ins.length (0 : Nat)), 0)) (fun v6 => n < nv ∧ ∃ x18, vals[n]? = some x18 ∧ x1.ins.length = v6.length ∧ implies_Gate_wp x1.kind x18 v6 (fun r19 => joinW (α := ((List Nat) × (List Nat) × Bool)) (fun k29 => ((!r19.2.2) = true → k29 (vals, wait, true)) ∧ ((!r19.2.2) = false → work_put_wp nodes names mems outs fan nv vals wait n r19.1 (fun (r30, x31, x35) => k29 (x31, x35, (!r30))))) (fun (v21, v25, v26) => (v26 = true → K (false, v21, v25)) ∧ (v26 = false → joinW (α := ((List Nat) × (List Nat))) (fun k45 => loopW (S := ((List Nat) × (List Nat) × Nat)) (fun (v46, v50, v51) nx54 => ((ltN v51 x1.ins.length) = true → ∃ x55, x1.ins[v51]? = some x55 ∧ ∃ x56, r19.2.1[v51]? = some x56 ∧ work_put_wp nodes names mems outs fan nv v46 v50 x55 x56 (fun (r57, x58, x62) => ((!r57) = true → K (false, x58, x62)) ∧ ((!r57) = false → v51 + 1 < 2 ^ 63 ∧ nx54 (x58, x62, (v51 + 1))))) ∧ ((ltN v51 x1.ins.length) = false → k45 (v46, v50))) (v21, v25, 0)) (fun (v38, v42) => K (true, v38, v42))))))
theorem work_gate_walk {nodes : List Node} {names : List ByteArray} {mems : List Memo} {outs : List Nat} {fan : List (List Ln)} {nv : Nat} {vals : List Nat} {wait : List Nat} {n : Nat} {gw : Nat} {gv : Nat} {a : Option Nat} {pre : List Value} {off : Nat} {L : List Slot} {K : (Bool × (List Nat) × (List Nat)) → Prop} (hm : work_gate_wp nodes names mems outs fan nv vals wait n K) {h0 h : Heap} (ha : a = none → wait = []) (hp : pre.length = off) (O : Own vars h0 (((some gw), .cells [((encL 4 encNode) nodes), ((encL 1 Value.string) names), ((encL 3 encMem) mems), ((encL 1 i64) outs), ((encL 1 (encL 2 encLn)) fan), (.slice (some ⟨gv, 0, none⟩) nv nv), (tailV 1 a off (wait.map i64))] false) :: ((some gv), .cells (flatC (vals.map n8)) false) :: (a, .cells (pre ++ flatC (wait.map i64)) false) :: L) h) : ∃ v h', CallD Tryd.prog NG 29 ⟨[(.pointer (some ⟨gw, 0, none⟩)), (i64 n)]⟩ h v h' ∧ ∃ (u0 : Bool) (w0 : (List Nat)) (w4 : (List Nat)) (b1 : Option Nat) (b2 : (List Value)) (b3 : Nat), K (u0, w0, w4) ∧ v = (Value.bool u0) ∧ (b1 = none → w4 = []) ∧ (b2.length = b3) ∧ Own vars h0 (((some gw), .cells [((encL 4 encNode) nodes), ((encL 1 Value.string) names), ((encL 3 encMem) mems), ((encL 1 i64) outs), ((encL 1 (encL 2 encLn)) fan), (.slice (some ⟨gv, 0, none⟩) nv nv), (tailV 1 b1 b3 (w4.map i64))] false) :: ((some gv), .cells (flatC (w0.map n8)) false) :: (b1, .cells (b2 ++ flatC (w4.map i64)) false) :: L) h' ∧ True := by
  unfold work_gate_wp at hm
  refine fnG hM Tryd.func29 rfl (hP _ _ rfl Tryd.func29) (Nat.le_of_ble_eq_true rfl) (Q := fun v h' => ∃ (u0 : Bool) (w0 : (List Nat)) (w4 : (List Nat)) (b1 : Option Nat) (b2 : (List Value)) (b3 : Nat), K (u0, w0, w4) ∧ v = (Value.bool u0) ∧ (b1 = none → w4 = []) ∧ (b2.length = b3) ∧ Own vars h0 (((some gw), .cells [((encL 4 encNode) nodes), ((encL 1 Value.string) names), ((encL 3 encMem) mems), ((encL 1 i64) outs), ((encL 1 (encL 2 encLn)) fan), (.slice (some ⟨gv, 0, none⟩) nv nv), (tailV 1 b1 b3 (w4.map i64))] false) :: ((some gv), .cells (flatC (w0.map n8)) false) :: (b1, .cells (b2 ++ flatC (w4.map i64)) false) :: L) h' ∧ True) ?_; conv=>whnf
  apply Cs;((conv=>whnf);repeat (first|apply Cs|apply Hs|apply Hx);conv=>whnf)
  refine ⟨_, loadK rfl (O.at (.head _)) rfl rfl, ?_⟩; ((conv=>whnf);repeat (first|apply Hs|apply Hx);conv=>whnf)
  obtain ⟨x1, hx1, hm⟩ := hm
  refine flAtM (s := 4) (enc := encNode) (j := n) rfl rfl rfl rfl hx1 ?_; ((conv=>whnf);repeat (first|apply Hs|apply Hx);conv=>whnf)
  refine ⟨_, (rfl : aread _ _ _ _ = some _), ?_⟩; ((conv=>whnf);repeat (first|apply Hs|apply Hx);conv=>whnf)
  refine O.new (anew_alloc (l := [(n8 0), (.slice none 0 0), (i64 0), (i64 0)]) rfl rfl rfl) fun g2 h O => ?_; ((conv=>whnf);repeat (first|apply Hs|apply Hx);conv=>whnf)
  refine O.store (n := 4) (cs' := [(n8 x1.kind), ((encL 1 i64) x1.ins), (i64 x1.mem), (i64 x1.bit)]) (.head _) rfl rfl rfl rfl (Nat.le_of_ble_eq_true rfl) rfl rfl fun h O => ?_; ((conv=>whnf);repeat (first|apply Cs|apply Hs|apply Hx);conv=>whnf)
  refine ⟨_, loadK rfl (O.at (.head _)) rfl rfl, ?_⟩; ((conv=>whnf);repeat (first|apply Hs|apply Hx);conv=>whnf)
  refine lenM (s := 1) (enc := i64) (l := x1.ins) rfl rfl ?_; ((conv=>whnf);repeat (first|apply Hs|apply Hx);conv=>whnf)
  refine O.makeL (enc := n8) (z := 0) (b := 1) (s := 1) (n := x1.ins.length) rfl rfl rfl rfl rfl (by decide) (by kernel_rfl) rfl rfl hm.1 hm.2.1 fun g4 h O => ?_; ((conv=>whnf);repeat (first|apply Hs|apply Hx);conv=>whnf)
  replace hm := hm.2.2
  refine CodeS.joinWS hm (nn := 86) (σ := (List Nat) × Unit) (fun s => s.1) (fun (v6, _) h => (a = none → wait = []) ∧ (pre.length = off) ∧ Own vars h0 (((some gw), .cells [((encL 4 encNode) nodes), ((encL 1 Value.string) names), ((encL 3 encMem) mems), ((encL 1 i64) outs), ((encL 1 (encL 2 encLn)) fan), (.slice (some ⟨gv, 0, none⟩) nv nv), (tailV 1 a off (wait.map i64))] false) :: ((some gv), .cells (flatC (vals.map n8)) false) :: (a, .cells (pre ++ flatC (wait.map i64)) false) :: ((some g2), .cells [(n8 x1.kind), ((encL 1 i64) x1.ins), (i64 x1.mem), (i64 x1.bit)] false) :: ((some g4), .cells (flatC (v6.map n8)) false) :: L) h ∧ True) (fun (v6, _) => [(0, (.pointer (some ⟨gw, 0, none⟩))), (1, (i64 n)), (5, (.pointer (some ⟨g2, 0, none⟩))), (6, (.slice (some ⟨g4, 0, none⟩) x1.ins.length x1.ins.length))]) rfl (fun hm' => ?_) ?_
  ·replace hm := hm'
   apply Cs;((conv=>whnf);repeat (first|apply Cs|apply Hs|apply Hx);conv=>whnf)
   refine ⟨_, loadK rfl (O.at (.tail _ (.head _))) rfl rfl, ?_⟩; ((conv=>whnf);repeat (first|apply Hs|apply Hx);conv=>whnf)
   refine lenM (s := 1) (enc := i64) (l := x1.ins) rfl rfl ?_; ((conv=>whnf);repeat (first|apply Cs|apply Hs|apply Hx);conv=>whnf)
   refine loopWK hM (by kernel_rfl) (nn := 86) (S := ((List Nat) × Nat)) (σ := ((List Nat) × Nat) × Unit) (fun s => s.1) (fun ((v10, v11), _) h => (a = none → wait = []) ∧ (pre.length = off) ∧ Own vars h0 (((some gw), .cells [((encL 4 encNode) nodes), ((encL 1 Value.string) names), ((encL 3 encMem) mems), ((encL 1 i64) outs), ((encL 1 (encL 2 encLn)) fan), (.slice (some ⟨gv, 0, none⟩) nv nv), (tailV 1 a off (wait.map i64))] false) :: ((some gv), .cells (flatC (vals.map n8)) false) :: (a, .cells (pre ++ flatC (wait.map i64)) false) :: ((some g2), .cells [(n8 x1.kind), ((encL 1 i64) x1.ins), (i64 x1.mem), (i64 x1.bit)] false) :: ((some g4), .cells (flatC (v10.map n8)) false) :: L) h ∧ True) (fun ((v10, v11), _) => [(0, (.pointer (some ⟨gw, 0, none⟩))), (1, (i64 n)), (5, (.pointer (some ⟨g2, 0, none⟩))), (6, (.slice (some ⟨g4, 0, none⟩) x1.ins.length x1.ins.length)), (27, ((encL 1 i64) x1.ins)), (28, (i64 x1.ins.length)), (29, (i64 v11))]) rfl (((List.replicate x1.ins.length (0 : Nat)), 0), ()) hm ⟨ha, hp, (Own.selT [((some g4), .cells (flatC ((List.replicate x1.ins.length (0 : Nat)).map n8)) false), ((some g2), .cells [(n8 x1.kind), ((encL 1 i64) x1.ins), (i64 x1.mem), (i64 x1.bit)] false), ((some gw), .cells [((encL 4 encNode) nodes), ((encL 1 Value.string) names), ((encL 3 encMem) mems), ((encL 1 i64) outs), ((encL 1 (encL 2 encLn)) fan), (.slice (some ⟨gv, 0, none⟩) nv nv), (tailV 1 a off (wait.map i64))] false), ((some gv), .cells (flatC (vals.map n8)) false), (a, .cells (pre ++ flatC (wait.map i64)) false)] O [2, 3, 4, 1, 0] (by decide)), trivial⟩ ⟨VLe.refl _ _, VLe.refl _ _, VLe.refl _ _, VLe.refl _ _, VLe.refl _ _, VLe.refl _ _, VLe.refl _ _, trivial⟩ ?_
   clear hm; rintro ⟨⟨v10, v11⟩, _⟩ nx14 base h hm ⟨ha12, hp13, O, _⟩
   ((conv=>whnf);repeat (first|apply Cs|apply Hs|apply Hx);conv=>whnf)
   refine ⟨_, rfl, fun hc => ?_, fun hc => ?_⟩
   ·replace hm := hm.1 hc
    apply Cs;((conv=>whnf);repeat (first|apply Cs|apply Hs|apply Hx);conv=>whnf)
    obtain ⟨x15, hx15, hm⟩ := hm
    refine flAtM (s := 1) (enc := i64) (j := v11) rfl rfl rfl rfl hx15 ?_; ((conv=>whnf);repeat (first|apply Hs|apply Hx);conv=>whnf)
    refine ⟨_, (rfl : aread _ _ _ _ = some _), ?_⟩; ((conv=>whnf);repeat (first|apply Cs|apply Hs|apply Hx);conv=>whnf)
    refine ⟨_, loadK rfl (O.at (.head _)) rfl rfl, ?_⟩; ((conv=>whnf);repeat (first|apply Hs|apply Hx);conv=>whnf)
    obtain ⟨hj, x16, hx16, hm⟩ := hm
    refine indexK (s := 1) (j := x15) rfl rfl rfl rfl hj ?_; ((conv=>whnf);repeat (first|apply Hs|apply Hx);conv=>whnf)
    refine ⟨_, loadK rfl (O.at (.tail _ (.head _))) rfl (cell_map (enc := n8) (s := 1) (k := 0) (fun _ => rfl) hx16 rfl), ?_⟩; ((conv=>whnf);repeat (first|apply Hs|apply Hx);conv=>whnf)
    obtain ⟨hj, x17, hx17, hm⟩ := hm
    refine indexK (s := 1) (j := v11) rfl rfl rfl rfl hj ?_; ((conv=>whnf);repeat (first|apply Hs|apply Hx);conv=>whnf)
    refine O.store (n := 1) (.tail _ (.tail _ (.tail _ (.tail _ (.head _))))) rfl rfl rfl rfl (el_le (enc := n8) (s := 1) (k := 0) (n := 1) (fun _ => rfl) (lt_of_get hx17) (Nat.le_of_ble_eq_true rfl)) rfl (splice_all (enc := n8) (s := 1) (fun _ => rfl) (lt_of_get hx17) (x := x16) rfl) fun h O => ?_; ((conv=>whnf);repeat (first|apply Cs|apply Hs|apply Hx);conv=>whnf)
    refine ⟨_, addK (a := v11) (b := 1) rfl rfl hm.1, ?_⟩; ((conv=>whnf);repeat (first|apply Hs|apply Hx);conv=>whnf)
    replace hm := hm.2
    exact ⟨(((v10.set v11 x16), (v11 + 1)), ()), hm, ⟨ha12, hp13, O, trivial⟩, VLe.refl _ _, VLe.refl _ _, VLe.refl _ _, VLe.refl _ _, VLe.refl _ _, VLe.refl _ _, VLe.refl _ _, trivial⟩
   ·replace hm := hm.2 hc
    apply Cs;((conv=>whnf);repeat (first|apply Cs|apply Hs|apply Hx);conv=>whnf)
    exact ⟨(v10, ()), hm, ⟨ha12, hp13, O, trivial⟩, VLe.refl _ _, VLe.refl _ _, VLe.refl _ _, VLe.refl _ _, trivial⟩
  ·clear hm; rintro ⟨v6, _⟩ base h hm ⟨ha7, hp8, O, _⟩
   ((conv=>whnf);repeat (first|apply Cs|apply Hs|apply Hx);conv=>whnf)
   refine ⟨_, loadK rfl (O.at (.tail _ (.tail _ (.tail _ (.head _))))) rfl rfl, ?_⟩; ((conv=>whnf);repeat (first|apply Hs|apply Hx);conv=>whnf)
   refine ⟨.inl rfl, ?_⟩; ((conv=>whnf);repeat (first|apply Hs|apply Hx);conv=>whnf)
   refine ⟨_, loadK rfl (O.at (.head _)) rfl rfl, ?_⟩; ((conv=>whnf);repeat (first|apply Hs|apply Hx);conv=>whnf)
   first | refine ⟨.inr (.inr (loadK rfl (O.at (.head _)) rfl rfl)), ?_⟩ | refine ⟨.inr (.inl (by kernel_rfl)), ?_⟩
   ((conv=>whnf);repeat (first|apply Cs|apply Hs|apply Hx);conv=>whnf)
   obtain ⟨hj, x18, hx18, hm⟩ := hm
   refine indexK (s := 1) (j := n) rfl rfl rfl rfl hj ?_; ((conv=>whnf);repeat (first|apply Hs|apply Hx);conv=>whnf)
   refine ⟨_, loadK rfl (O.at (.tail _ (.head _))) rfl (cell_map (enc := n8) (s := 1) (k := 0) (fun _ => rfl) hx18 rfl), ?_⟩; ((conv=>whnf);repeat (first|apply Hs|apply Hx);conv=>whnf)
   refine ⟨.inl rfl, ?_⟩; ((conv=>whnf);repeat (first|apply Hs|apply Hx);conv=>whnf)
   obtain ⟨hn20, hm⟩ := hm
   refine O.useL (fun _ hb => implies_Gate_walk hm hb) (.tail _ (.tail _ (.tail _ (.tail _ (.head _))))) hn20 (fun _ => rfl) (i := 2) rfl (by kernel_rfl) (fun h2 q => (LLe.cons (VLe.refl _ _) (LLe.cons (VLe.refl _ _) (LLe.cons (q) (LLe.nil _))))) (fun r19 h hm' O => ?_); replace hm := hm'; ((conv=>whnf);repeat (first|apply Hs|apply Hx);conv=>whnf)
   refine ⟨.inr (by kernel_rfl), ?_⟩; ((conv=>whnf);repeat (first|apply Hs|apply Hx);conv=>whnf)
   apply Cs;conv=>whnf
   refine CodeS.joinWS hm (nn := 86) (σ := ((List Nat) × (List Nat) × Bool) × (Option Nat × (List Value) × Nat)) (fun s => s.1) (fun ((v21, v25, v26), (a22, a23, a24)) h => (a22 = none → v25 = []) ∧ (a23.length = a24) ∧ Own vars h0 (((some gw), .cells [((encL 4 encNode) nodes), ((encL 1 Value.string) names), ((encL 3 encMem) mems), ((encL 1 i64) outs), ((encL 1 (encL 2 encLn)) fan), (.slice (some ⟨gv, 0, none⟩) nv nv), (tailV 1 a22 a24 (v25.map i64))] false) :: ((some gv), .cells (flatC (v21.map n8)) false) :: (a22, .cells (a23 ++ flatC (v25.map i64)) false) :: ((some g2), .cells [(n8 x1.kind), ((encL 1 i64) x1.ins), (i64 x1.mem), (i64 x1.bit)] false) :: L) h ∧ True) (fun ((v21, v25, v26), (a22, a23, a24)) => [(0, (.pointer (some ⟨gw, 0, none⟩))), (5, (.pointer (some ⟨g2, 0, none⟩))), (10, ((encL 1 n8) r19.2.1)), (68, (.bool v26))]) rfl (fun hm' => ?_) ?_
   ·replace hm := hm'
    apply Cs;((conv=>whnf);repeat (first|apply Cs|apply Hs|apply Hx);conv=>whnf)
    refine ⟨_, rfl, fun hc => ?_, fun hc => ?_⟩
    ·replace hm := hm.1 hc; ((conv=>whnf);repeat (first|apply Hs|apply Hx);conv=>whnf)
     exact ⟨((vals, wait, true), (a, pre, off)), hm, ⟨ha7, hp8, (Own.selT [((some gw), .cells [((encL 4 encNode) nodes), ((encL 1 Value.string) names), ((encL 3 encMem) mems), ((encL 1 i64) outs), ((encL 1 (encL 2 encLn)) fan), (.slice (some ⟨gv, 0, none⟩) nv nv), (tailV 1 a off (wait.map i64))] false), ((some gv), .cells (flatC (vals.map n8)) false), (a, .cells (pre ++ flatC (wait.map i64)) false), ((some g2), .cells [(n8 x1.kind), ((encL 1 i64) x1.ins), (i64 x1.mem), (i64 x1.bit)] false), ((some g4), .cells (flatC (v6.map n8)) true)] O [0, 1, 2, 3] (by decide)), trivial⟩, VLe.refl _ _, VLe.refl _ _, VLe.refl _ _, VLe.refl _ _, trivial⟩
    ·replace hm := hm.2 hc; ((conv=>whnf);repeat (first|apply Hs|apply Hx);conv=>whnf)
     obtain ⟨_, h, hcall, r30, x31, x35, a32, a33, a34, hm, rfl, ha36, hp37, O, _⟩ := work_put_walk hm ha7 hp8 O
     refine ⟨_, _, hcall, ?_⟩; ((conv=>whnf);repeat (first|apply Hs|apply Hx);conv=>whnf)
     exact ⟨((x31, x35, (!r30)), (a32, a33, a34)), hm, ⟨ha36, hp37, (Own.selT [((some gw), .cells [((encL 4 encNode) nodes), ((encL 1 Value.string) names), ((encL 3 encMem) mems), ((encL 1 i64) outs), ((encL 1 (encL 2 encLn)) fan), (.slice (some ⟨gv, 0, none⟩) nv nv), (tailV 1 a32 a34 (x35.map i64))] false), ((some gv), .cells (flatC (x31.map n8)) false), (a32, .cells (a33 ++ flatC (x35.map i64)) false), ((some g2), .cells [(n8 x1.kind), ((encL 1 i64) x1.ins), (i64 x1.mem), (i64 x1.bit)] false), ((some g4), .cells (flatC (v6.map n8)) true)] O [0, 1, 2, 3] (by decide)), trivial⟩, VLe.refl _ _, VLe.refl _ _, VLe.refl _ _, VLe.refl _ _, trivial⟩
   ·clear hm; rintro ⟨⟨v21, v25, v26⟩, ⟨a22, a23, a24⟩⟩ base h hm ⟨ha27, hp28, O, _⟩
    ((conv=>whnf);repeat (first|apply Cs|apply Hs|apply Hx);conv=>whnf)
    refine ⟨_, rfl, fun hc => ?_, fun hc => ?_⟩
    ·replace hm := hm.1 hc
     apply Cs;((conv=>whnf);repeat (first|apply Cs|apply Hs|apply Hx);conv=>whnf)
     exact ⟨false, v21, v25, a22, a23, a24, hm, rfl, ha27, hp28, (Own.selT [((some gw), .cells [((encL 4 encNode) nodes), ((encL 1 Value.string) names), ((encL 3 encMem) mems), ((encL 1 i64) outs), ((encL 1 (encL 2 encLn)) fan), (.slice (some ⟨gv, 0, none⟩) nv nv), (tailV 1 a22 a24 (v25.map i64))] false), ((some gv), .cells (flatC (v21.map n8)) false), (a22, .cells (a23 ++ flatC (v25.map i64)) false), ((some g2), .cells [(n8 x1.kind), ((encL 1 i64) x1.ins), (i64 x1.mem), (i64 x1.bit)] false)] O [0, 1, 2] (by decide)), trivial⟩
    ·replace hm := hm.2 hc
     apply Cs;conv=>whnf
     refine CodeS.joinWS hm (nn := 86) (σ := ((List Nat) × (List Nat)) × (Option Nat × (List Value) × Nat)) (fun s => s.1) (fun ((v38, v42), (a39, a40, a41)) h => (a39 = none → v42 = []) ∧ (a40.length = a41) ∧ Own vars h0 (((some gw), .cells [((encL 4 encNode) nodes), ((encL 1 Value.string) names), ((encL 3 encMem) mems), ((encL 1 i64) outs), ((encL 1 (encL 2 encLn)) fan), (.slice (some ⟨gv, 0, none⟩) nv nv), (tailV 1 a39 a41 (v42.map i64))] false) :: ((some gv), .cells (flatC (v38.map n8)) false) :: (a39, .cells (a40 ++ flatC (v42.map i64)) false) :: L) h ∧ True) (fun ((v38, v42), (a39, a40, a41)) => []) rfl (fun hm' => ?_) ?_
     ·replace hm := hm'
      apply Cs;((conv=>whnf);repeat (first|apply Cs|apply Hs|apply Hx);conv=>whnf)
      refine ⟨_, loadK rfl (O.at (.tail _ (.tail _ (.tail _ (.head _))))) rfl rfl, ?_⟩; ((conv=>whnf);repeat (first|apply Hs|apply Hx);conv=>whnf)
      refine lenM (s := 1) (enc := i64) (l := x1.ins) rfl rfl ?_; ((conv=>whnf);repeat (first|apply Cs|apply Hs|apply Hx);conv=>whnf)
      refine loopWK hM (by kernel_rfl) (nn := 86) (S := ((List Nat) × (List Nat) × Nat)) (σ := ((List Nat) × (List Nat) × Nat) × (Option Nat × (List Value) × Nat)) (fun s => s.1) (fun ((v46, v50, v51), (a47, a48, a49)) h => (a47 = none → v50 = []) ∧ (a48.length = a49) ∧ Own vars h0 (((some gw), .cells [((encL 4 encNode) nodes), ((encL 1 Value.string) names), ((encL 3 encMem) mems), ((encL 1 i64) outs), ((encL 1 (encL 2 encLn)) fan), (.slice (some ⟨gv, 0, none⟩) nv nv), (tailV 1 a47 a49 (v50.map i64))] false) :: ((some gv), .cells (flatC (v46.map n8)) false) :: (a47, .cells (a48 ++ flatC (v50.map i64)) false) :: L) h ∧ True) (fun ((v46, v50, v51), (a47, a48, a49)) => [(0, (.pointer (some ⟨gw, 0, none⟩))), (10, ((encL 1 n8) r19.2.1)), (70, ((encL 1 i64) x1.ins)), (71, (i64 x1.ins.length)), (72, (i64 v51))]) rfl ((v21, v25, 0), (a22, a23, a24)) hm ⟨ha27, hp28, (Own.selT [((some gw), .cells [((encL 4 encNode) nodes), ((encL 1 Value.string) names), ((encL 3 encMem) mems), ((encL 1 i64) outs), ((encL 1 (encL 2 encLn)) fan), (.slice (some ⟨gv, 0, none⟩) nv nv), (tailV 1 a22 a24 (v25.map i64))] false), ((some gv), .cells (flatC (v21.map n8)) false), (a22, .cells (a23 ++ flatC (v25.map i64)) false), ((some g2), .cells [(n8 x1.kind), ((encL 1 i64) x1.ins), (i64 x1.mem), (i64 x1.bit)] false)] O [0, 1, 2] (by decide)), trivial⟩ ⟨VLe.refl _ _, VLe.refl _ _, VLe.refl _ _, VLe.refl _ _, VLe.refl _ _, trivial⟩ ?_
      clear hm; rintro ⟨⟨v46, v50, v51⟩, ⟨a47, a48, a49⟩⟩ nx54 base h hm ⟨ha52, hp53, O, _⟩
      ((conv=>whnf);repeat (first|apply Cs|apply Hs|apply Hx);conv=>whnf)
      refine ⟨_, rfl, fun hc => ?_, fun hc => ?_⟩
      ·replace hm := hm.1 hc
       apply Cs;((conv=>whnf);repeat (first|apply Cs|apply Hs|apply Hx);conv=>whnf)
       obtain ⟨x55, hx55, hm⟩ := hm
       refine flAtM (s := 1) (enc := i64) (j := v51) rfl rfl rfl rfl hx55 ?_; ((conv=>whnf);repeat (first|apply Hs|apply Hx);conv=>whnf)
       refine ⟨_, (rfl : aread _ _ _ _ = some _), ?_⟩; ((conv=>whnf);repeat (first|apply Cs|apply Hs|apply Hx);conv=>whnf)
       obtain ⟨x56, hx56, hm⟩ := hm
       refine flAtM (s := 1) (enc := n8) (j := v51) rfl rfl rfl rfl hx56 ?_; ((conv=>whnf);repeat (first|apply Hs|apply Hx);conv=>whnf)
       refine ⟨_, (rfl : aread _ _ _ _ = some _), ?_⟩; ((conv=>whnf);repeat (first|apply Hs|apply Hx);conv=>whnf)
       obtain ⟨_, h, hcall, r57, x58, x62, a59, a60, a61, hm, rfl, ha63, hp64, O, _⟩ := work_put_walk hm ha52 hp53 O
       refine ⟨_, _, hcall, ?_⟩; ((conv=>whnf);repeat (first|apply Cs|apply Hs|apply Hx);conv=>whnf)
       refine ⟨_, rfl, fun hc => ?_, fun hc => ?_⟩
       ·replace hm := hm.1 hc
        apply Cs;((conv=>whnf);repeat (first|apply Cs|apply Hs|apply Hx);conv=>whnf)
        exact ⟨false, x58, x62, a59, a60, a61, hm, rfl, ha63, hp64, O, trivial⟩
       ·replace hm := hm.2 hc
        apply Cs;((conv=>whnf);repeat (first|apply Cs|apply Hs|apply Hx);conv=>whnf)
        refine ⟨_, addK (a := v51) (b := 1) rfl rfl hm.1, ?_⟩; ((conv=>whnf);repeat (first|apply Hs|apply Hx);conv=>whnf)
        replace hm := hm.2
        exact ⟨((x58, x62, (v51 + 1)), (a59, a60, a61)), hm, ⟨ha63, hp64, O, trivial⟩, VLe.refl _ _, VLe.refl _ _, VLe.refl _ _, VLe.refl _ _, VLe.refl _ _, trivial⟩
      ·replace hm := hm.2 hc
       apply Cs;((conv=>whnf);repeat (first|apply Cs|apply Hs|apply Hx);conv=>whnf)
       exact ⟨((v46, v50), (a47, a48, a49)), hm, ⟨ha52, hp53, O, trivial⟩, trivial⟩
     ·clear hm; rintro ⟨⟨v38, v42⟩, ⟨a39, a40, a41⟩⟩ base h hm ⟨ha43, hp44, O, _⟩
      ((conv=>whnf);repeat (first|apply Cs|apply Hs|apply Hx);conv=>whnf)
      exact ⟨true, v38, v42, a39, a40, a41, hm, rfl, ha43, hp44, O, trivial⟩
def implies_Close_wp (p0 : Circ) (p1 : (List Asg)) (K : ((List Nat) × Bool × Nat) → Prop) : Prop :=
  implies_Plain_wp p0 (fun r1 => ((neN r1 0) = true → K ([], false, r1)) ∧ ((neN r1 0) = false → joinW (α := Unit) (fun k2 => loopW (S := Nat) (fun v3 nx4 => ((ltN v3 p1.length) = true → ∃ x5, p1[v3]? = some x5 ∧ joinW (α := Bool) (fun k9 => ((ltN x5.net 0) = true → k9 true) ∧ ((ltN x5.net 0) = false → ((!ltN x5.net p0.nodes.length) = true → k9 true) ∧ ((!ltN x5.net p0.nodes.length) = false → logic_Known_wp x5.value (fun r10 => k9 (!r10))))) (fun v8 => (v8 = true → K ([], false, 1)) ∧ (v8 = false → v3 + 1 < 2 ^ 63 ∧ nx4 (v3 + 1)))) ∧ ((ltN v3 p1.length) = false → k2 ())) 0) (fun _ => netlists_Fanout_wp p0 (fun r11 => 1 * p0.nodes.length ≤ 2 ^ 48 ∧ p0.nodes.length < 2 ^ 63 ∧ joinW (α := ((List Nat) × (List Nat))) (fun k24 => loopW (S := ((List Nat) × (List Nat) × Nat)) (fun (v25, v29, v30) nx33 => ((ltN v30 p0.nodes.length) = true → v30 < p0.nodes.length ∧ ∃ x34, v25[v30]? = some x34 ∧ (v29.length + ([v30] : (List Nat)).length) * 8 ≤ 2 ^ 47 ∧ v30 + 1 < 2 ^ 63 ∧ nx33 ((v25.set v30 2), (v29 ++ ([v30] : (List Nat))), (v30 + 1))) ∧ ((ltN v30 p0.nodes.length) = false → k24 (v25, v29))) ((List.replicate p0.nodes.length (0 : Nat)), ([] : List Nat), 0)) (fun (v17, v21) => joinW (α := ((List Nat) × (List Nat))) (fun k47 => loopW (S := ((List Nat) × (List Nat) × Nat)) (fun (v48, v52, v53) nx56 => ((ltN v53 p1.length) = true → ∃ x57, p1[v53]? = some x57 ∧ work_put_wp p0.nodes p0.names p0.mems p0.outs r11 p0.nodes.length v48 v52 x57.net x57.value (fun (r60, x61, x65) => ((!r60) = true → K ([], false, 0)) ∧ ((!r60) = false → v53 + 1 < 2 ^ 63 ∧ nx56 (x61, x65, (v53 + 1))))) ∧ ((ltN v53 p1.length) = false → k47 (v48, v52))) (v17, v21, 0)) (fun (v40, v44) => joinW (α := ((List Nat) × (List Nat))) (fun k75 => loopW (S := ((List Nat) × (List Nat))) (fun (v76, v80) nx83 => ((ltN 0 v80.length) = true → ∃ x84, v80[0]? = some x84 ∧ 1 ≤ v80.length ∧ ∃ x87, p0.nodes[x84]? = some x87 ∧ implies_free_wp x87.kind (fun r88 => (r88 = true → nx83 (v76, (v80.drop 1))) ∧ (r88 = false → work_gate_wp p0.nodes p0.names p0.mems p0.outs r11 p0.nodes.length v76 (v80.drop 1) x84 (fun (r89, x90, x94) => ((!r89) = true → K ([], false, 0)) ∧ ((!r89) = false → nx83 (x90, x94)))))) ∧ ((ltN 0 v80.length) = false → k75 (v76, v80))) (v40, v44)) (fun (v68, v72) => p0.nodes.length = v68.length ∧ K (v68, true, 0))))))))
theorem implies_Close_walk {p0 : Circ} {p1 : (List Asg)} {K : ((List Nat) × Bool × Nat) → Prop} (hm : implies_Close_wp p0 p1 K) {h0 : Heap} (hB : HasB vars h0) : ∃ r, K r ∧ CallD Tryd.prog NG 9 ⟨[encCirc p0, (encL 2 encAsg) p1]⟩ h0 ((fun (r : ((List Nat) × Bool × Nat)) => Value.tuple ⟨[(encL 1 n8) (r.1), Value.bool (r.2.1), i64 (r.2.2)]⟩) r) h0 := by
  unfold implies_Close_wp at hm
  refine fnW hM Tryd.func9 rfl (hP _ _ rfl Tryd.func9) (Nat.le_of_ble_eq_true rfl) hB (enc := (fun (r : ((List Nat) × Bool × Nat)) => Value.tuple ⟨[(encL 1 n8) (r.1), Value.bool (r.2.1), i64 (r.2.2)]⟩)) (fun r => PureV.tup (AllPure.cons (pureL (fun _ => AllPure.cons (PureV.flat rfl) AllPure.nil)) (AllPure.cons (PureV.flat rfl) (AllPure.cons (PureV.flat rfl) (AllPure.nil))))) fun O => ?_; conv=>whnf
  apply Cs;((conv=>whnf);repeat (first|apply Cs|apply Hs|apply Hx);conv=>whnf)
  refine NewG.frz rfl ?_; ((conv=>whnf);repeat (first|apply Cs|apply Hs|apply Hx);conv=>whnf)
  refine ⟨_, (rfl : aread _ _ _ _ = some _), ?_⟩; ((conv=>whnf);repeat (first|apply Hs|apply Hx);conv=>whnf)
  obtain ⟨r1, hm, hcall⟩ := implies_Plain_walk hm O.has
  refine ⟨_, _, hcall, ?_⟩; ((conv=>whnf);repeat (first|apply Cs|apply Hs|apply Hx);conv=>whnf)
  refine ⟨_, rfl, fun hc => ?_, fun hc => ?_⟩
  ·replace hm := hm.1 hc
   apply Cs;((conv=>whnf);repeat (first|apply Cs|apply Hs|apply Hx);conv=>whnf)
   exact ⟨([], false, r1), hm, O.ext, fun h2 F => VLe.tup (LLe.cons (VLe.nil _ _) (LLe.cons (VLe.refl _ _) (LLe.cons (VLe.refl _ _) (LLe.nil _))))⟩
  ·replace hm := hm.2 hc
   apply Cs;conv=>whnf
   refine CodeS.joinWS hm (nn := 125) (σ := Unit × Unit) (fun s => s.1) (fun (_, _) h => Own vars h0 [] h ∧ True) (fun (_, _) => [(1, ((encL 2 encAsg) p1)), (2, (FP (encCirc p0)))]) rfl (fun hm' => ?_) ?_
   ·replace hm := hm'
    apply Cs;((conv=>whnf);repeat (first|apply Cs|apply Hs|apply Hx);conv=>whnf)
    refine lenM (s := 2) (enc := encAsg) (l := p1) rfl rfl ?_; ((conv=>whnf);repeat (first|apply Cs|apply Hs|apply Hx);conv=>whnf)
    refine loopWK hM (by kernel_rfl) (nn := 125) (S := Nat) (σ := Nat × Unit) (fun s => s.1) (fun (v3, _) h => Own vars h0 [] h ∧ True) (fun (v3, _) => [(1, ((encL 2 encAsg) p1)), (2, (FP (encCirc p0))), (20, ((encL 2 encAsg) p1)), (21, (i64 p1.length)), (22, (i64 v3))]) rfl (0, ()) hm ⟨O, trivial⟩ ⟨VLe.refl _ _, VLe.refl _ _, VLe.refl _ _, VLe.refl _ _, VLe.refl _ _, trivial⟩ ?_
    clear hm; rintro ⟨v3, _⟩ nx4 base h hm ⟨O, _⟩
    ((conv=>whnf);repeat (first|apply Cs|apply Hs|apply Hx);conv=>whnf)
    refine ⟨_, rfl, fun hc => ?_, fun hc => ?_⟩
    ·replace hm := hm.1 hc
     apply Cs;((conv=>whnf);repeat (first|apply Cs|apply Hs|apply Hx);conv=>whnf)
     obtain ⟨x5, hx5, hm⟩ := hm
     refine flAtM (s := 2) (enc := encAsg) (j := v3) rfl rfl rfl rfl hx5 ?_; ((conv=>whnf);repeat (first|apply Hs|apply Hx);conv=>whnf)
     refine ⟨_, (rfl : aread _ _ _ _ = some _), ?_⟩; ((conv=>whnf);repeat (first|apply Hs|apply Hx);conv=>whnf)
     refine O.new (anew_alloc (l := [(i64 0), (n8 0)]) rfl rfl rfl) fun g6 h O => ?_; ((conv=>whnf);repeat (first|apply Hs|apply Hx);conv=>whnf)
     refine O.store (n := 2) (cs' := [(i64 x5.net), (n8 x5.value)]) (.head _) rfl rfl rfl rfl (Nat.le_of_ble_eq_true rfl) rfl rfl fun h O => ?_; ((conv=>whnf);repeat (first|apply Hs|apply Hx);conv=>whnf)
     refine CodeS.joinWS hm (nn := 125) (σ := Bool × Unit) (fun s => s.1) (fun (v8, _) h => Own vars h0 [] h ∧ True) (fun (v8, _) => [(1, ((encL 2 encAsg) p1)), (2, (FP (encCirc p0))), (20, ((encL 2 encAsg) p1)), (21, (i64 p1.length)), (22, (i64 v3)), (42, (.bool v8))]) rfl (fun hm' => ?_) ?_
     ·replace hm := hm'
      apply Cs;((conv=>whnf);repeat (first|apply Cs|apply Hs|apply Hx);conv=>whnf)
      refine ⟨_, loadK rfl (O.at (.head _)) rfl rfl, ?_⟩; ((conv=>whnf);repeat (first|apply Hs|apply Hx);conv=>whnf)
      refine ⟨_, rfl, fun hc => ?_, fun hc => ?_⟩
      ·replace hm := hm.1 hc; ((conv=>whnf);repeat (first|apply Hs|apply Hx);conv=>whnf)
       refine ⟨true, rfl, fun _ => ?_, (fun hc => nomatch hc)⟩; ((conv=>whnf);repeat (first|apply Hs|apply Hx);conv=>whnf)
       exact ⟨(true, ()), hm, ⟨(O.sel [] (by decide)), trivial⟩, VLe.refl _ _, VLe.refl _ _, VLe.refl _ _, VLe.refl _ _, VLe.refl _ _, VLe.refl _ _, trivial⟩
      ·replace hm := hm.2 hc; ((conv=>whnf);repeat (first|apply Hs|apply Hx);conv=>whnf)
       refine ⟨_, loadK rfl (O.at (.head _)) rfl rfl, ?_⟩; ((conv=>whnf);repeat (first|apply Hs|apply Hx);conv=>whnf)
       refine ⟨_, (rfl : aread _ _ _ _ = some _), ?_⟩; ((conv=>whnf);repeat (first|apply Hs|apply Hx);conv=>whnf)
       refine lenM (s := 4) (enc := encNode) (l := p0.nodes) rfl rfl ?_; ((conv=>whnf);repeat (first|apply Hs|apply Hx);conv=>whnf)
       refine ⟨_, rfl, fun hc => ?_, fun hc => ?_⟩
       ·replace hm := hm.1 hc; ((conv=>whnf);repeat (first|apply Hs|apply Hx);conv=>whnf)
        exact ⟨(true, ()), hm, ⟨(O.sel [] (by decide)), trivial⟩, VLe.refl _ _, VLe.refl _ _, VLe.refl _ _, VLe.refl _ _, VLe.refl _ _, VLe.refl _ _, trivial⟩
       ·replace hm := hm.2 hc; ((conv=>whnf);repeat (first|apply Hs|apply Hx);conv=>whnf)
        refine ⟨_, loadK rfl (O.at (.head _)) rfl rfl, ?_⟩; ((conv=>whnf);repeat (first|apply Hs|apply Hx);conv=>whnf)
        obtain ⟨r10, hm, hcall⟩ := logic_Known_walk hm O.has
        refine ⟨_, _, hcall, ?_⟩; ((conv=>whnf);repeat (first|apply Hs|apply Hx);conv=>whnf)
        exact ⟨((!r10), ()), hm, ⟨(O.sel [] (by decide)), trivial⟩, VLe.refl _ _, VLe.refl _ _, VLe.refl _ _, VLe.refl _ _, VLe.refl _ _, VLe.refl _ _, trivial⟩
     ·clear hm; rintro ⟨v8, _⟩ base h hm ⟨O, _⟩
      ((conv=>whnf);repeat (first|apply Cs|apply Hs|apply Hx);conv=>whnf)
      refine ⟨_, rfl, fun hc => ?_, fun hc => ?_⟩
      ·replace hm := hm.1 hc
       apply Cs;((conv=>whnf);repeat (first|apply Cs|apply Hs|apply Hx);conv=>whnf)
       exact ⟨([], false, 1), hm, O.ext, fun h2 F => VLe.tup (LLe.cons (VLe.nil _ _) (LLe.cons (VLe.refl _ _) (LLe.cons (VLe.refl _ _) (LLe.nil _))))⟩
      ·replace hm := hm.2 hc
       apply Cs;((conv=>whnf);repeat (first|apply Cs|apply Hs|apply Hx);conv=>whnf)
       refine ⟨_, addK (a := v3) (b := 1) rfl rfl hm.1, ?_⟩; ((conv=>whnf);repeat (first|apply Hs|apply Hx);conv=>whnf)
       replace hm := hm.2
       exact ⟨((v3 + 1), ()), hm, ⟨O, trivial⟩, VLe.refl _ _, VLe.refl _ _, VLe.refl _ _, VLe.refl _ _, VLe.refl _ _, trivial⟩
    ·replace hm := hm.2 hc
     apply Cs;((conv=>whnf);repeat (first|apply Cs|apply Hs|apply Hx);conv=>whnf)
     exact ⟨((), ()), hm, ⟨O, trivial⟩, VLe.refl _ _, VLe.refl _ _, trivial⟩
   ·clear hm; rintro ⟨_, _⟩ base h hm ⟨O, _⟩
    ((conv=>whnf);repeat (first|apply Cs|apply Hs|apply Hx);conv=>whnf)
    refine ⟨_, (rfl : aread _ _ _ _ = some _), ?_⟩; ((conv=>whnf);repeat (first|apply Hs|apply Hx);conv=>whnf)
    first | refine ⟨.inr (.inr (rfl)), ?_⟩ | refine ⟨.inr (.inl (by kernel_rfl)), ?_⟩
    ((conv=>whnf);repeat (first|apply Cs|apply Hs|apply Hx);conv=>whnf)
    refine ⟨_, (rfl : aread _ _ _ _ = some _), ?_⟩; ((conv=>whnf);repeat (first|apply Hs|apply Hx);conv=>whnf)
    first | refine ⟨.inr (.inr (rfl)), ?_⟩ | refine ⟨.inr (.inl (by kernel_rfl)), ?_⟩
    ((conv=>whnf);repeat (first|apply Cs|apply Hs|apply Hx);conv=>whnf)
    obtain ⟨r11, hm, hcall⟩ := netlists_Fanout_walk hm O.has
    refine ⟨_, _, hcall, ?_⟩; ((conv=>whnf);repeat (first|apply Hs|apply Hx);conv=>whnf)
    refine ⟨.inl (Ext.refl _), ?_⟩; ((conv=>whnf);repeat (first|apply Hs|apply Hx);conv=>whnf)
    refine ⟨_, (rfl : aread _ _ _ _ = some _), ?_⟩; ((conv=>whnf);repeat (first|apply Hs|apply Hx);conv=>whnf)
    first | refine ⟨.inr (.inr (rfl)), ?_⟩ | refine ⟨.inr (.inl (by kernel_rfl)), ?_⟩
    ((conv=>whnf);repeat (first|apply Cs|apply Hs|apply Hx);conv=>whnf)
    refine lenM (s := 4) (enc := encNode) (l := p0.nodes) rfl rfl ?_; ((conv=>whnf);repeat (first|apply Hs|apply Hx);conv=>whnf)
    refine O.makeLX (enc := n8) (z := 0) (b := 1) (s := 1) (n := p0.nodes.length) rfl rfl rfl rfl rfl (by decide) (by kernel_rfl) rfl rfl hm.1 hm.2.1 fun g12 h O => ?_; ((conv=>whnf);repeat (first|apply Hs|apply Hx);conv=>whnf)
    replace hm := hm.2.2
    have O := O.addNil (.cells ([] ++ flatC ((([] : List Nat)).map i64)) false)
    refine O.newX (boxK rfl) fun g14 h O => ?_; ((conv=>whnf);repeat (first|apply Hs|apply Hx);conv=>whnf)
    refine CodeS.joinWS hm (nn := 125) (σ := ((List Nat) × (List Nat)) × (Option Nat × (List Value) × Nat)) (fun s => s.1) (fun ((v17, v21), (a18, a19, a20)) h => (a18 = none → v21 = []) ∧ (a19.length = a20) ∧ Own vars h0 [((some g14), .cells [((encL 4 encNode) p0.nodes), ((encL 1 Value.string) p0.names), ((encL 3 encMem) p0.mems), ((encL 1 i64) p0.outs), ((encL 1 (encL 2 encLn)) r11), (.slice (some ⟨g12, 0, none⟩) p0.nodes.length p0.nodes.length), (tailV 1 a18 a20 (v21.map i64))] false), ((some g12), .cells (flatC (v17.map n8)) false), (a18, .cells (a19 ++ flatC (v21.map i64)) false)] h ∧ True) (fun ((v17, v21), (a18, a19, a20)) => [(1, ((encL 2 encAsg) p1)), (2, (FP (encCirc p0))), (10, (.pointer (some ⟨g14, 0, none⟩)))]) rfl (fun hm' => ?_) ?_
    ·replace hm := hm'
     apply Cs;((conv=>whnf);repeat (first|apply Cs|apply Hs|apply Hx);conv=>whnf)
     refine ⟨_, (rfl : aread _ _ _ _ = some _), ?_⟩; ((conv=>whnf);repeat (first|apply Hs|apply Hx);conv=>whnf)
     refine lenM (s := 4) (enc := encNode) (l := p0.nodes) rfl rfl ?_; ((conv=>whnf);repeat (first|apply Cs|apply Hs|apply Hx);conv=>whnf)
     refine loopWK hM (by kernel_rfl) (nn := 125) (S := ((List Nat) × (List Nat) × Nat)) (σ := ((List Nat) × (List Nat) × Nat) × (Option Nat × (List Value) × Nat)) (fun s => s.1) (fun ((v25, v29, v30), (a26, a27, a28)) h => (a26 = none → v29 = []) ∧ (a27.length = a28) ∧ Own vars h0 [((some g14), .cells [((encL 4 encNode) p0.nodes), ((encL 1 Value.string) p0.names), ((encL 3 encMem) p0.mems), ((encL 1 i64) p0.outs), ((encL 1 (encL 2 encLn)) r11), (.slice (some ⟨g12, 0, none⟩) p0.nodes.length p0.nodes.length), (tailV 1 a26 a28 (v29.map i64))] false), ((some g12), .cells (flatC (v25.map n8)) false), (a26, .cells (a27 ++ flatC (v29.map i64)) false)] h ∧ True) (fun ((v25, v29, v30), (a26, a27, a28)) => [(1, ((encL 2 encAsg) p1)), (2, (FP (encCirc p0))), (10, (.pointer (some ⟨g14, 0, none⟩))), (55, (i64 p0.nodes.length)), (56, (i64 v30))]) rfl (((List.replicate p0.nodes.length (0 : Nat)), ([] : List Nat), 0), (none, [], 0)) hm ⟨(fun _ => rfl), rfl, (O.sel [0, 2, 1] (by decide)), trivial⟩ ⟨VLe.refl _ _, VLe.refl _ _, VLe.refl _ _, VLe.refl _ _, VLe.refl _ _, trivial⟩ ?_
     clear hm; rintro ⟨⟨v25, v29, v30⟩, ⟨a26, a27, a28⟩⟩ nx33 base h hm ⟨ha31, hp32, O, _⟩
     ((conv=>whnf);repeat (first|apply Cs|apply Hs|apply Hx);conv=>whnf)
     refine ⟨_, rfl, fun hc => ?_, fun hc => ?_⟩
     ·replace hm := hm.1 hc
      apply Cs;((conv=>whnf);repeat (first|apply Cs|apply Hs|apply Hx);conv=>whnf)
      refine ⟨_, loadK rfl (O.at (.head _)) rfl rfl, ?_⟩; ((conv=>whnf);repeat (first|apply Hs|apply Hx);conv=>whnf)
      obtain ⟨hj, x34, hx34, hm⟩ := hm
      refine indexK (s := 1) (j := v30) rfl rfl rfl rfl hj ?_; ((conv=>whnf);repeat (first|apply Hs|apply Hx);conv=>whnf)
      refine O.store (n := 1) (.tail _ (.head _)) rfl rfl rfl rfl (el_le (enc := n8) (s := 1) (k := 0) (n := 1) (fun _ => rfl) (lt_of_get hx34) (Nat.le_of_ble_eq_true rfl)) rfl (splice_all (enc := n8) (s := 1) (fun _ => rfl) (lt_of_get hx34) (x := 2) rfl) fun h O => ?_; ((conv=>whnf);repeat (first|apply Cs|apply Hs|apply Hx);conv=>whnf)
      refine ⟨_, loadK rfl (O.at (.head _)) rfl rfl, ?_⟩; ((conv=>whnf);repeat (first|apply Hs|apply Hx);conv=>whnf)
      refine NewG.frz rfl ?_; ((conv=>whnf);repeat (first|apply Hs|apply Hx);conv=>whnf)
      refine Own.appendT (enc := i64) (l := v29) (new := ([v30] : (List Nat))) (s := 1) (b := 8) hp32 O (.tail _ (.tail _ (.head _))) ha31 rfl rfl rfl rfl rfl rfl rfl rfl (YOk.fl rfl) (fun _ => rfl) (fun _ => rfl) (by decide) hm.1 fun a35 q37 o38 h hp39 ha36 O => ?_; ((conv=>whnf);repeat (first|apply Hs|apply Hx);conv=>whnf)
      replace hm := hm.2
      refine O.store (n := 1) (cs' := [((encL 4 encNode) p0.nodes), ((encL 1 Value.string) p0.names), ((encL 3 encMem) p0.mems), ((encL 1 i64) p0.outs), ((encL 1 (encL 2 encLn)) r11), (.slice (some ⟨g12, 0, none⟩) p0.nodes.length p0.nodes.length), (tailV 1 a35 o38 ((v29 ++ ([v30] : (List Nat))).map i64))]) (.head _) rfl rfl rfl rfl (Nat.le_of_ble_eq_true rfl) rfl rfl fun h O => ?_; ((conv=>whnf);repeat (first|apply Cs|apply Hs|apply Hx);conv=>whnf)
      refine ⟨_, addK (a := v30) (b := 1) rfl rfl hm.1, ?_⟩; ((conv=>whnf);repeat (first|apply Hs|apply Hx);conv=>whnf)
      replace hm := hm.2
      exact ⟨(((v25.set v30 2), (v29 ++ ([v30] : (List Nat))), (v30 + 1)), (a35, q37, o38)), hm, ⟨ha36, hp39, O, trivial⟩, VLe.refl _ _, VLe.refl _ _, VLe.refl _ _, VLe.refl _ _, VLe.refl _ _, trivial⟩
     ·replace hm := hm.2 hc
      apply Cs;((conv=>whnf);repeat (first|apply Cs|apply Hs|apply Hx);conv=>whnf)
      exact ⟨((v25, v29), (a26, a27, a28)), hm, ⟨ha31, hp32, O, trivial⟩, VLe.refl _ _, VLe.refl _ _, VLe.refl _ _, trivial⟩
    ·clear hm; rintro ⟨⟨v17, v21⟩, ⟨a18, a19, a20⟩⟩ base h hm ⟨ha22, hp23, O, _⟩
     conv=>whnf
     refine CodeS.joinWS hm (nn := 125) (σ := ((List Nat) × (List Nat)) × (Option Nat × (List Value) × Nat)) (fun s => s.1) (fun ((v40, v44), (a41, a42, a43)) h => (a41 = none → v44 = []) ∧ (a42.length = a43) ∧ Own vars h0 [((some g14), .cells [((encL 4 encNode) p0.nodes), ((encL 1 Value.string) p0.names), ((encL 3 encMem) p0.mems), ((encL 1 i64) p0.outs), ((encL 1 (encL 2 encLn)) r11), (.slice (some ⟨g12, 0, none⟩) p0.nodes.length p0.nodes.length), (tailV 1 a41 a43 (v44.map i64))] false), ((some g12), .cells (flatC (v40.map n8)) false), (a41, .cells (a42 ++ flatC (v44.map i64)) false)] h ∧ True) (fun ((v40, v44), (a41, a42, a43)) => [(2, (FP (encCirc p0))), (10, (.pointer (some ⟨g14, 0, none⟩)))]) rfl (fun hm' => ?_) ?_
     ·replace hm := hm'
      apply Cs;((conv=>whnf);repeat (first|apply Cs|apply Hs|apply Hx);conv=>whnf)
      refine lenM (s := 2) (enc := encAsg) (l := p1) rfl rfl ?_; ((conv=>whnf);repeat (first|apply Cs|apply Hs|apply Hx);conv=>whnf)
      refine loopWK hM (by kernel_rfl) (nn := 125) (S := ((List Nat) × (List Nat) × Nat)) (σ := ((List Nat) × (List Nat) × Nat) × (Option Nat × (List Value) × Nat)) (fun s => s.1) (fun ((v48, v52, v53), (a49, a50, a51)) h => (a49 = none → v52 = []) ∧ (a50.length = a51) ∧ Own vars h0 [((some g14), .cells [((encL 4 encNode) p0.nodes), ((encL 1 Value.string) p0.names), ((encL 3 encMem) p0.mems), ((encL 1 i64) p0.outs), ((encL 1 (encL 2 encLn)) r11), (.slice (some ⟨g12, 0, none⟩) p0.nodes.length p0.nodes.length), (tailV 1 a49 a51 (v52.map i64))] false), ((some g12), .cells (flatC (v48.map n8)) false), (a49, .cells (a50 ++ flatC (v52.map i64)) false)] h ∧ True) (fun ((v48, v52, v53), (a49, a50, a51)) => [(2, (FP (encCirc p0))), (10, (.pointer (some ⟨g14, 0, none⟩))), (76, ((encL 2 encAsg) p1)), (77, (i64 p1.length)), (78, (i64 v53))]) rfl ((v17, v21, 0), (a18, a19, a20)) hm ⟨ha22, hp23, O, trivial⟩ ⟨VLe.refl _ _, VLe.refl _ _, VLe.refl _ _, VLe.refl _ _, VLe.refl _ _, trivial⟩ ?_
      clear hm; rintro ⟨⟨v48, v52, v53⟩, ⟨a49, a50, a51⟩⟩ nx56 base h hm ⟨ha54, hp55, O, _⟩
      ((conv=>whnf);repeat (first|apply Cs|apply Hs|apply Hx);conv=>whnf)
      refine ⟨_, rfl, fun hc => ?_, fun hc => ?_⟩
      ·replace hm := hm.1 hc
       apply Cs;((conv=>whnf);repeat (first|apply Cs|apply Hs|apply Hx);conv=>whnf)
       obtain ⟨x57, hx57, hm⟩ := hm
       refine flAtM (s := 2) (enc := encAsg) (j := v53) rfl rfl rfl rfl hx57 ?_; ((conv=>whnf);repeat (first|apply Hs|apply Hx);conv=>whnf)
       refine ⟨_, (rfl : aread _ _ _ _ = some _), ?_⟩; ((conv=>whnf);repeat (first|apply Hs|apply Hx);conv=>whnf)
       refine O.new (anew_alloc (l := [(i64 0), (n8 0)]) rfl rfl rfl) fun g58 h O => ?_; ((conv=>whnf);repeat (first|apply Hs|apply Hx);conv=>whnf)
       refine O.store (n := 2) (cs' := [(i64 x57.net), (n8 x57.value)]) (.head _) rfl rfl rfl rfl (Nat.le_of_ble_eq_true rfl) rfl rfl fun h O => ?_; ((conv=>whnf);repeat (first|apply Cs|apply Hs|apply Hx);conv=>whnf)
       refine ⟨_, loadK rfl (O.at (.head _)) rfl rfl, ?_⟩; ((conv=>whnf);repeat (first|apply Hs|apply Hx);conv=>whnf)
       refine ⟨_, loadK rfl (O.at (.head _)) rfl rfl, ?_⟩; ((conv=>whnf);repeat (first|apply Hs|apply Hx);conv=>whnf)
       obtain ⟨_, h, hcall, r60, x61, x65, a62, a63, a64, hm, rfl, ha66, hp67, O, _⟩ := work_put_walk hm ha54 hp55 (O.sel [1, 2, 3, 0] (by decide))
       refine ⟨_, _, hcall, ?_⟩; ((conv=>whnf);repeat (first|apply Cs|apply Hs|apply Hx);conv=>whnf)
       refine ⟨_, rfl, fun hc => ?_, fun hc => ?_⟩
       ·replace hm := hm.1 hc
        apply Cs;((conv=>whnf);repeat (first|apply Cs|apply Hs|apply Hx);conv=>whnf)
        exact ⟨([], false, 0), hm, O.ext, fun h2 F => VLe.tup (LLe.cons (VLe.nil _ _) (LLe.cons (VLe.refl _ _) (LLe.cons (VLe.refl _ _) (LLe.nil _))))⟩
       ·replace hm := hm.2 hc
        apply Cs;((conv=>whnf);repeat (first|apply Cs|apply Hs|apply Hx);conv=>whnf)
        refine ⟨_, addK (a := v53) (b := 1) rfl rfl hm.1, ?_⟩; ((conv=>whnf);repeat (first|apply Hs|apply Hx);conv=>whnf)
        replace hm := hm.2
        exact ⟨((x61, x65, (v53 + 1)), (a62, a63, a64)), hm, ⟨ha66, hp67, (O.sel [0, 1, 2] (by decide)), trivial⟩, VLe.refl _ _, VLe.refl _ _, VLe.refl _ _, VLe.refl _ _, VLe.refl _ _, trivial⟩
      ·replace hm := hm.2 hc
       apply Cs;((conv=>whnf);repeat (first|apply Cs|apply Hs|apply Hx);conv=>whnf)
       exact ⟨((v48, v52), (a49, a50, a51)), hm, ⟨ha54, hp55, O, trivial⟩, VLe.refl _ _, VLe.refl _ _, trivial⟩
     ·clear hm; rintro ⟨⟨v40, v44⟩, ⟨a41, a42, a43⟩⟩ base h hm ⟨ha45, hp46, O, _⟩
      conv=>whnf
      apply Cs;conv=>whnf
      apply Cs;conv=>whnf
      refine CodeS.joinWS hm (nn := 125) (σ := ((List Nat) × (List Nat)) × (Option Nat × (List Value) × Nat)) (fun s => s.1) (fun ((v68, v72), (a69, a70, a71)) h => (a69 = none → v72 = []) ∧ (a70.length = a71) ∧ Own vars h0 [((some g14), .cells [((encL 4 encNode) p0.nodes), ((encL 1 Value.string) p0.names), ((encL 3 encMem) p0.mems), ((encL 1 i64) p0.outs), ((encL 1 (encL 2 encLn)) r11), (.slice (some ⟨g12, 0, none⟩) p0.nodes.length p0.nodes.length), (tailV 1 a69 a71 (v72.map i64))] false), ((some g12), .cells (flatC (v68.map n8)) false), (a69, .cells (a70 ++ flatC (v72.map i64)) false)] h ∧ True) (fun ((v68, v72), (a69, a70, a71)) => [(10, (.pointer (some ⟨g14, 0, none⟩)))]) rfl (fun hm' => ?_) ?_
      ·replace hm := hm'
       apply Cs;((conv=>whnf);repeat (first|apply Cs|apply Hs|apply Hx);conv=>whnf)
       refine loopWK hM (by kernel_rfl) (nn := 125) (S := ((List Nat) × (List Nat))) (σ := ((List Nat) × (List Nat)) × (Option Nat × (List Value) × Nat)) (fun s => s.1) (fun ((v76, v80), (a77, a78, a79)) h => (a77 = none → v80 = []) ∧ (a78.length = a79) ∧ Own vars h0 [((some g14), .cells [((encL 4 encNode) p0.nodes), ((encL 1 Value.string) p0.names), ((encL 3 encMem) p0.mems), ((encL 1 i64) p0.outs), ((encL 1 (encL 2 encLn)) r11), (.slice (some ⟨g12, 0, none⟩) p0.nodes.length p0.nodes.length), (tailV 1 a77 a79 (v80.map i64))] false), ((some g12), .cells (flatC (v76.map n8)) false), (a77, .cells (a78 ++ flatC (v80.map i64)) false)] h ∧ True) (fun ((v76, v80), (a77, a78, a79)) => [(2, (FP (encCirc p0))), (10, (.pointer (some ⟨g14, 0, none⟩)))]) rfl ((v40, v44), (a41, a42, a43)) hm ⟨ha45, hp46, O, trivial⟩ ⟨VLe.refl _ _, VLe.refl _ _, trivial⟩ ?_
       clear hm; rintro ⟨⟨v76, v80⟩, ⟨a77, a78, a79⟩⟩ nx83 base h hm ⟨ha81, hp82, O, _⟩
       ((conv=>whnf);repeat (first|apply Cs|apply Hs|apply Hx);conv=>whnf)
       refine ⟨_, loadK rfl (O.at (.head _)) rfl rfl, ?_⟩; ((conv=>whnf);repeat (first|apply Hs|apply Hx);conv=>whnf)
       refine lenG (enc := i64) (l := v80) rfl rfl ?_; ((conv=>whnf);repeat (first|apply Cs|apply Hs|apply Hx);conv=>whnf)
       refine ⟨_, rfl, fun hc => ?_, fun hc => ?_⟩
       ·replace hm := hm.1 hc
        apply Cs;((conv=>whnf);repeat (first|apply Cs|apply Hs|apply Hx);conv=>whnf)
        refine ⟨_, loadK rfl (O.at (.head _)) rfl rfl, ?_⟩; ((conv=>whnf);repeat (first|apply Hs|apply Hx);conv=>whnf)
        obtain ⟨x84, hx84, hm⟩ := hm
        obtain ⟨g85, rfl⟩ := addr_some ha81 hx84
        refine tailAtK (s := 1) (enc := i64) (o := a79) (j := 0) rfl rfl rfl rfl hx84 ?_; ((conv=>whnf);repeat (first|apply Hs|apply Hx);conv=>whnf)
        refine ⟨_, loadK rfl (O.at (.tail _ (.tail _ (.head _)))) rfl (tail_cell (enc := i64) (s := 1) (k := 0) hp82 (fun _ => rfl) hx84 rfl), ?_⟩; ((conv=>whnf);repeat (first|apply Cs|apply Hs|apply Hx);conv=>whnf)
        refine ⟨_, loadK rfl (O.at (.head _)) rfl rfl, ?_⟩; ((conv=>whnf);repeat (first|apply Hs|apply Hx);conv=>whnf)
        refine tailFromK (s := 1) (enc := i64) (l := v80) (o := a79) (k := 1) rfl rfl rfl rfl hm.1 ?_; ((conv=>whnf);repeat (first|apply Hs|apply Hx);conv=>whnf)
        rw [tail_split (enc := i64) (l := v80) 1] at O
        have hp86 := tail_len (enc := i64) (l := v80) (s := 1) (k := 1) (fun _ => rfl) hp82 hm.1
        replace hm := hm.2
        refine O.store (n := 1) (cs' := [((encL 4 encNode) p0.nodes), ((encL 1 Value.string) p0.names), ((encL 3 encMem) p0.mems), ((encL 1 i64) p0.outs), ((encL 1 (encL 2 encLn)) r11), (.slice (some ⟨g12, 0, none⟩) p0.nodes.length p0.nodes.length), (tailV 1 (some g85) (a79 + 1 * 1) ((v80.drop 1).map i64))]) (.head _) rfl rfl rfl rfl (Nat.le_of_ble_eq_true rfl) rfl rfl fun h O => ?_; ((conv=>whnf);repeat (first|apply Cs|apply Hs|apply Hx);conv=>whnf)
        refine ⟨_, (rfl : aread _ _ _ _ = some _), ?_⟩; ((conv=>whnf);repeat (first|apply Hs|apply Hx);conv=>whnf)
        obtain ⟨x87, hx87, hm⟩ := hm
        refine flAtM (s := 4) (enc := encNode) (j := x84) rfl rfl rfl rfl hx87 ?_; ((conv=>whnf);repeat (first|apply Hs|apply Hx);conv=>whnf)
        refine ⟨_, (rfl : aread _ _ _ _ = some _), ?_⟩; ((conv=>whnf);repeat (first|apply Hs|apply Hx);conv=>whnf)
        obtain ⟨r88, hm, hcall⟩ := implies_free_walk hm O.has
        refine ⟨_, _, hcall, ?_⟩; ((conv=>whnf);repeat (first|apply Cs|apply Hs|apply Hx);conv=>whnf)
        refine ⟨_, rfl, fun hc => ?_, fun hc => ?_⟩
        ·replace hm := hm.1 hc
         apply Cs;((conv=>whnf);repeat (first|apply Cs|apply Hs|apply Hx);conv=>whnf)
         exact ⟨((v76, (v80.drop 1)), ((some g85), (a78 ++ flatC ((v80.take 1).map i64)), (a79 + 1 * 1))), hm, ⟨someNone, hp86, O, trivial⟩, VLe.refl _ _, VLe.refl _ _, trivial⟩
        ·replace hm := hm.2 hc
         apply Cs;((conv=>whnf);repeat (first|apply Cs|apply Hs|apply Hx);conv=>whnf)
         obtain ⟨_, h, hcall, r89, x90, x94, a91, a92, a93, hm, rfl, ha95, hp96, O, _⟩ := work_gate_walk hm someNone hp86 O
         refine ⟨_, _, hcall, ?_⟩; ((conv=>whnf);repeat (first|apply Cs|apply Hs|apply Hx);conv=>whnf)
         refine ⟨_, rfl, fun hc => ?_, fun hc => ?_⟩
         ·replace hm := hm.1 hc
          apply Cs;((conv=>whnf);repeat (first|apply Cs|apply Hs|apply Hx);conv=>whnf)
          exact ⟨([], false, 0), hm, O.ext, fun h2 F => VLe.tup (LLe.cons (VLe.nil _ _) (LLe.cons (VLe.refl _ _) (LLe.cons (VLe.refl _ _) (LLe.nil _))))⟩
         ·replace hm := hm.2 hc
          apply Cs;((conv=>whnf);repeat (first|apply Cs|apply Hs|apply Hx);conv=>whnf)
          exact ⟨((x90, x94), (a91, a92, a93)), hm, ⟨ha95, hp96, O, trivial⟩, VLe.refl _ _, VLe.refl _ _, trivial⟩
       ·replace hm := hm.2 hc
        apply Cs;((conv=>whnf);repeat (first|apply Cs|apply Hs|apply Hx);conv=>whnf)
        exact ⟨((v76, v80), (a77, a78, a79)), hm, ⟨ha81, hp82, O, trivial⟩, VLe.refl _ _, trivial⟩
      ·clear hm; rintro ⟨⟨v68, v72⟩, ⟨a69, a70, a71⟩⟩ base h hm ⟨ha73, hp74, O, _⟩
       ((conv=>whnf);repeat (first|apply Cs|apply Hs|apply Hx);conv=>whnf)
       refine ⟨_, loadK rfl (O.at (.head _)) rfl rfl, ?_⟩; ((conv=>whnf);repeat (first|apply Cs|apply Hs|apply Hx);conv=>whnf)
       obtain ⟨hn97, hm⟩ := hm
       exact ⟨(v68, true, 0), hm, O.ext, fun h2 F => VLe.tup (LLe.cons (O.flatL F (Nat.le_refl _) (.tail _ (.head _)) (fun _ => rfl) hn97) (LLe.cons (VLe.refl _ _) (LLe.cons (VLe.refl _ _) (LLe.nil _))))⟩
def probecardlaw24_Free_wp (p0 : Circ) (K : (List Nat) → Prop) : Prop :=
  joinW (α := (List Nat)) (fun k6 => loopW (S := ((List Nat) × Nat)) (fun (v8, v9) nx11 => ((ltN v9 p0.nodes.length) = true → joinW (α := (List Nat)) (fun k15 => joinW (α := Bool) (fun k18 => ∃ x19, p0.nodes[v9]? = some x19 ∧ ((eqN x19.kind 0) = true → k18 true) ∧ ((eqN x19.kind 0) = false → ∃ x20, p0.nodes[v9]? = some x20 ∧ k18 (eqN x20.kind 14))) (fun v16 => (v16 = true → (v8.length + ([v9] : (List Nat)).length) * 8 ≤ 2 ^ 47 ∧ k15 (v8 ++ ([v9] : (List Nat)))) ∧ (v16 = false → k15 v8))) (fun v13 => v9 + 1 < 2 ^ 63 ∧ nx11 (v13, (v9 + 1)))) ∧ ((ltN v9 p0.nodes.length) = false → k6 v8)) (([] : List Nat), 0)) (fun v4 => K v4)
theorem probecardlaw24_Free_walk {p0 : Circ} {K : (List Nat) → Prop} (hm : probecardlaw24_Free_wp p0 K) {h0 : Heap} (hB : HasB vars h0) : ∃ r, K r ∧ CallD Tryd.prog NG 36 ⟨[encCirc p0]⟩ h0 ((encL 1 i64) r) h0 := by
  unfold probecardlaw24_Free_wp at hm
  refine fnW hM Tryd.func36 rfl (hP _ _ rfl Tryd.func36) (Nat.le_of_ble_eq_true rfl) hB (enc := (encL 1 i64)) (fun r => pureL (fun _ => AllPure.cons (PureV.flat rfl) AllPure.nil)) fun O => ?_; conv=>whnf
  apply Cs;((conv=>whnf);repeat (first|apply Cs|apply Hs|apply Hx);conv=>whnf)
  refine NewG.frz rfl ?_; ((conv=>whnf);repeat (first|apply Hs|apply Hx);conv=>whnf)
  have O := O.addNil (.cells (flatC ((([] : List Nat)).map i64)) false)
  apply Cs;conv=>whnf
  apply Cs;((conv=>whnf);repeat (first|apply Hs|apply Hx);conv=>whnf)
  have O := O.addNil (.cells (flatC ((([] : List Nat)).map i64)) false)
  refine CodeS.joinWS hm (nn := 33) (σ := (List Nat) × Option Nat) (fun s => s.1) (fun (v4, a3) h => (a3 = none → v4 = []) ∧ Own vars h0 [(a3, .cells (flatC (v4.map i64)) false)] h ∧ True) (fun (v4, a3) => [(3, (growV 1 a3 (v4.map i64)))]) rfl (fun hm' => ?_) ?_
  ·replace hm := hm'
   apply Cs;((conv=>whnf);repeat (first|apply Cs|apply Hs|apply Hx);conv=>whnf)
   refine loopWK hM (by kernel_rfl) (nn := 33) (S := ((List Nat) × Nat)) (σ := ((List Nat) × Nat) × Option Nat) (fun s => s.1) (fun ((v8, v9), a7) h => (a7 = none → v8 = []) ∧ Own vars h0 [(a7, .cells (flatC (v8.map i64)) false)] h ∧ True) (fun ((v8, v9), a7) => [(1, (FP (encCirc p0))), (3, (growV 1 a7 (v8.map i64))), (4, (i64 v9))]) rfl ((([] : List Nat), 0), none) hm ⟨(fun _ => rfl), (O.sel [0] (by decide)), trivial⟩ ⟨VLe.refl _ _, VLe.refl _ _, VLe.refl _ _, trivial⟩ ?_
   clear hm; rintro ⟨⟨v8, v9⟩, a7⟩ nx11 base h hm ⟨ha10, O, _⟩
   ((conv=>whnf);repeat (first|apply Cs|apply Hs|apply Hx);conv=>whnf)
   refine ⟨_, (rfl : aread _ _ _ _ = some _), ?_⟩; ((conv=>whnf);repeat (first|apply Hs|apply Hx);conv=>whnf)
   refine lenM (s := 4) (enc := encNode) (l := p0.nodes) rfl rfl ?_; ((conv=>whnf);repeat (first|apply Cs|apply Hs|apply Hx);conv=>whnf)
   refine ⟨_, rfl, fun hc => ?_, fun hc => ?_⟩
   ·replace hm := hm.1 hc
    apply Cs;conv=>whnf
    refine CodeS.joinWS hm (nn := 33) (σ := (List Nat) × Option Nat) (fun s => s.1) (fun (v13, a12) h => (a12 = none → v13 = []) ∧ Own vars h0 [(a12, .cells (flatC (v13.map i64)) false)] h ∧ True) (fun (v13, a12) => [(1, (FP (encCirc p0))), (3, (growV 1 a12 (v13.map i64))), (4, (i64 v9))]) rfl (fun hm' => ?_) ?_
    ·replace hm := hm'
     apply Cs;conv=>whnf
     refine CodeS.joinWS hm (nn := 33) (σ := Bool × Unit) (fun s => s.1) (fun (v16, _) h => (a7 = none → v8 = []) ∧ Own vars h0 [(a7, .cells (flatC (v8.map i64)) false)] h ∧ True) (fun (v16, _) => [(1, (FP (encCirc p0))), (3, (growV 1 a7 (v8.map i64))), (4, (i64 v9)), (27, (.bool v16))]) rfl (fun hm' => ?_) ?_
     ·replace hm := hm'
      apply Cs;((conv=>whnf);repeat (first|apply Cs|apply Hs|apply Hx);conv=>whnf)
      refine ⟨_, (rfl : aread _ _ _ _ = some _), ?_⟩; ((conv=>whnf);repeat (first|apply Hs|apply Hx);conv=>whnf)
      obtain ⟨x19, hx19, hm⟩ := hm
      refine flAtM (s := 4) (enc := encNode) (j := v9) rfl rfl rfl rfl hx19 ?_; ((conv=>whnf);repeat (first|apply Hs|apply Hx);conv=>whnf)
      refine ⟨_, (rfl : aread _ _ _ _ = some _), ?_⟩; ((conv=>whnf);repeat (first|apply Hs|apply Hx);conv=>whnf)
      refine ⟨_, rfl, fun hc => ?_, fun hc => ?_⟩
      ·replace hm := hm.1 hc; ((conv=>whnf);repeat (first|apply Hs|apply Hx);conv=>whnf)
       exact ⟨(true, ()), hm, ⟨ha10, O, trivial⟩, VLe.refl _ _, VLe.refl _ _, VLe.refl _ _, VLe.refl _ _, trivial⟩
      ·replace hm := hm.2 hc; ((conv=>whnf);repeat (first|apply Hs|apply Hx);conv=>whnf)
       refine ⟨_, (rfl : aread _ _ _ _ = some _), ?_⟩; ((conv=>whnf);repeat (first|apply Hs|apply Hx);conv=>whnf)
       obtain ⟨x20, hx20, hm⟩ := hm
       refine flAtM (s := 4) (enc := encNode) (j := v9) rfl rfl rfl rfl hx20 ?_; ((conv=>whnf);repeat (first|apply Hs|apply Hx);conv=>whnf)
       refine ⟨_, (rfl : aread _ _ _ _ = some _), ?_⟩; ((conv=>whnf);repeat (first|apply Hs|apply Hx);conv=>whnf)
       exact ⟨((eqN x20.kind 14), ()), hm, ⟨ha10, O, trivial⟩, VLe.refl _ _, VLe.refl _ _, VLe.refl _ _, VLe.refl _ _, trivial⟩
     ·clear hm; rintro ⟨v16, _⟩ base h hm ⟨ha17, O, _⟩
      ((conv=>whnf);repeat (first|apply Cs|apply Hs|apply Hx);conv=>whnf)
      refine ⟨_, rfl, fun hc => ?_, fun hc => ?_⟩
      ·replace hm := hm.1 hc
       apply Cs;((conv=>whnf);repeat (first|apply Cs|apply Hs|apply Hx);conv=>whnf)
       refine NewG.frz rfl ?_; ((conv=>whnf);repeat (first|apply Hs|apply Hx);conv=>whnf)
       refine O.appendL (enc := i64) (l := v8) (new := ([v9] : (List Nat))) (s := 1) (b := 8) (.head _) ha17 rfl rfl rfl rfl rfl rfl rfl rfl (YOk.fl rfl) (fun _ => rfl) (fun _ => rfl) (by decide) hm.1 fun a21 h ha22 O => ?_; ((conv=>whnf);repeat (first|apply Hs|apply Hx);conv=>whnf)
       replace hm := hm.2
       exact ⟨((v8 ++ ([v9] : (List Nat))), a21), hm, ⟨ha22, O, trivial⟩, VLe.refl _ _, VLe.refl _ _, VLe.refl _ _, trivial⟩
      ·replace hm := hm.2 hc
       apply Cs;((conv=>whnf);repeat (first|apply Cs|apply Hs|apply Hx);conv=>whnf)
       exact ⟨(v8, a7), hm, ⟨ha17, O, trivial⟩, VLe.refl _ _, VLe.refl _ _, VLe.refl _ _, trivial⟩
    ·clear hm; rintro ⟨v13, a12⟩ base h hm ⟨ha14, O, _⟩
     ((conv=>whnf);repeat (first|apply Cs|apply Hs|apply Hx);conv=>whnf)
     refine ⟨_, addK (a := v9) (b := 1) rfl rfl hm.1, ?_⟩; ((conv=>whnf);repeat (first|apply Hs|apply Hx);conv=>whnf)
     replace hm := hm.2
     exact ⟨((v13, (v9 + 1)), a12), hm, ⟨ha14, O, trivial⟩, VLe.refl _ _, VLe.refl _ _, VLe.refl _ _, trivial⟩
   ·replace hm := hm.2 hc
    apply Cs;((conv=>whnf);repeat (first|apply Cs|apply Hs|apply Hx);conv=>whnf)
    exact ⟨(v8, a7), hm, ⟨ha10, O, trivial⟩, VLe.refl _ _, trivial⟩
  ·clear hm; rintro ⟨v4, a3⟩ base h hm ⟨ha5, O, _⟩
   ((conv=>whnf);repeat (first|apply Cs|apply Hs|apply Hx);conv=>whnf)
   exact ⟨v4, hm, O.ext, fun h2 F => O.grownL F (Nat.le_refl _) (.head _) ha5 (fun _ => rfl)⟩
def probecardlaw24_Total_wp (p0 : Circ) (p1 : Nat) (K : (List Nat) → Prop) : Prop :=
  1 * p0.nodes.length ≤ 2 ^ 48 ∧ p0.nodes.length < 2 ^ 63 ∧ probecardlaw24_Free_wp p0 (fun r3 => joinW (α := (List Nat)) (fun k5 => loopW (S := ((List Nat) × Nat)) (fun (v6, v7) nx8 => ((ltN v7 r3.length) = true → ∃ x9, r3[v7]? = some x9 ∧ v7 ≤ 63 ∧ 0 < 2 ∧ x9 < p0.nodes.length ∧ ∃ x10, v6[x9]? = some x10 ∧ v7 + 1 < 2 ^ 63 ∧ nx8 ((v6.set x9 (((p1 / 2 ^ v7) % 2) % 256)), (v7 + 1))) ∧ ((ltN v7 r3.length) = false → k5 v6)) ((List.replicate p0.nodes.length (0 : Nat)), 0)) (fun v4 => netlists_Order_wp p0 (fun r11 => joinW (α := (List Nat)) (fun k13 => loopW (S := ((List Nat) × Nat)) (fun (v14, v15) nx16 => ((ltN v15 r11.1.length) = true → joinW (α := (List Nat)) (fun k18 => ∃ x19, r11.1[v15]? = some x19 ∧ joinW (α := Bool) (fun k21 => ∃ x22, p0.nodes[x19]? = some x22 ∧ ((eqN x22.kind 0) = true → k21 true) ∧ ((eqN x22.kind 0) = false → ∃ x23, p0.nodes[x19]? = some x23 ∧ k21 (eqN x23.kind 14))) (fun v20 => (v20 = true → k18 v14) ∧ (v20 = false → joinW (α := (List Nat)) (fun k28 => loopW (S := ((List Nat) × Nat)) (fun (v30, v31) nx33 => ∃ x34, p0.nodes[x19]? = some x34 ∧ ((ltN v31 x34.ins.length) = true → ∃ x35, p0.nodes[x19]? = some x35 ∧ ∃ x36, x35.ins[v31]? = some x36 ∧ x36 < p0.nodes.length ∧ ∃ x37, v14[x36]? = some x37 ∧ (v30.length + ([x37] : (List Nat)).length) * 1 ≤ 2 ^ 47 ∧ v31 + 1 < 2 ^ 63 ∧ nx33 ((v30 ++ ([x37] : (List Nat))), (v31 + 1))) ∧ ((ltN v31 x34.ins.length) = false → k28 v30)) (([] : List Nat), 0)) (fun v26 => ∃ x40, p0.nodes[x19]? = some x40 ∧ logic_Eval_wp x40.kind v26 (fun r41 => x19 < p0.nodes.length ∧ ∃ x42, v14[x19]? = some x42 ∧ k18 (v14.set x19 r41)))))) (fun v17 => v15 + 1 < 2 ^ 63 ∧ nx16 (v17, (v15 + 1)))) ∧ ((ltN v15 r11.1.length) = false → k13 v14)) (v4, 0)) (fun v12 => p0.nodes.length = v12.length ∧ K v12))))
theorem probecardlaw24_Total_walk {p0 : Circ} {p1 : Nat} {K : (List Nat) → Prop} (hm : probecardlaw24_Total_wp p0 p1 K) {h0 : Heap} (hB : HasB vars h0) : ∃ r, K r ∧ CallD Tryd.prog NG 16 ⟨[encCirc p0, i64 p1]⟩ h0 ((encL 1 n8) r) h0 := by
  unfold probecardlaw24_Total_wp at hm
  refine fnW hM Tryd.func16 rfl (hP _ _ rfl Tryd.func16) (Nat.le_of_ble_eq_true rfl) hB (enc := (encL 1 n8)) (fun r => pureL (fun _ => AllPure.cons (PureV.flat rfl) AllPure.nil)) fun O => ?_; conv=>whnf
  apply Cs;((conv=>whnf);repeat (first|apply Cs|apply Hs|apply Hx);conv=>whnf)
  refine NewG.frz rfl ?_; ((conv=>whnf);repeat (first|apply Cs|apply Hs|apply Hx);conv=>whnf)
  refine ⟨_, (rfl : aread _ _ _ _ = some _), ?_⟩; ((conv=>whnf);repeat (first|apply Hs|apply Hx);conv=>whnf)
  refine lenM (s := 4) (enc := encNode) (l := p0.nodes) rfl rfl ?_; ((conv=>whnf);repeat (first|apply Hs|apply Hx);conv=>whnf)
  refine O.makeL (enc := n8) (z := 0) (b := 1) (s := 1) (n := p0.nodes.length) rfl rfl rfl rfl rfl (by decide) (by kernel_rfl) rfl rfl hm.1 hm.2.1 fun g1 h O => ?_; ((conv=>whnf);repeat (first|apply Cs|apply Hs|apply Hx);conv=>whnf)
  replace hm := hm.2.2
  refine ⟨_, (rfl : aread _ _ _ _ = some _), ?_⟩; ((conv=>whnf);repeat (first|apply Hs|apply Hx);conv=>whnf)
  obtain ⟨r3, hm, hcall⟩ := probecardlaw24_Free_walk hm O.has
  refine ⟨_, _, hcall, ?_⟩; ((conv=>whnf);repeat (first|apply Hs|apply Hx);conv=>whnf)
  refine CodeS.joinWS hm (nn := 106) (σ := (List Nat) × Unit) (fun s => s.1) (fun (v4, _) h => Own vars h0 [((some g1), .cells (flatC (v4.map n8)) false)] h ∧ True) (fun (v4, _) => [(2, (FP (encCirc p0))), (5, (.slice (some ⟨g1, 0, none⟩) p0.nodes.length p0.nodes.length))]) rfl (fun hm' => ?_) ?_
  ·replace hm := hm'
   apply Cs;((conv=>whnf);repeat (first|apply Cs|apply Hs|apply Hx);conv=>whnf)
   refine loopWK hM (by kernel_rfl) (nn := 106) (S := ((List Nat) × Nat)) (σ := ((List Nat) × Nat) × Unit) (fun s => s.1) (fun ((v6, v7), _) h => Own vars h0 [((some g1), .cells (flatC (v6.map n8)) false)] h ∧ True) (fun ((v6, v7), _) => [(1, (i64 p1)), (2, (FP (encCirc p0))), (5, (.slice (some ⟨g1, 0, none⟩) p0.nodes.length p0.nodes.length)), (6, ((encL 1 i64) r3)), (7, (i64 v7))]) rfl (((List.replicate p0.nodes.length (0 : Nat)), 0), ()) hm ⟨O, trivial⟩ ⟨VLe.refl _ _, VLe.refl _ _, VLe.refl _ _, VLe.refl _ _, VLe.refl _ _, trivial⟩ ?_
   clear hm; rintro ⟨⟨v6, v7⟩, _⟩ nx8 base h hm ⟨O, _⟩
   ((conv=>whnf);repeat (first|apply Cs|apply Hs|apply Hx);conv=>whnf)
   refine lenM (s := 1) (enc := i64) (l := r3) rfl rfl ?_; ((conv=>whnf);repeat (first|apply Cs|apply Hs|apply Hx);conv=>whnf)
   refine ⟨_, rfl, fun hc => ?_, fun hc => ?_⟩
   ·replace hm := hm.1 hc
    apply Cs;((conv=>whnf);repeat (first|apply Cs|apply Hs|apply Hx);conv=>whnf)
    obtain ⟨x9, hx9, hm⟩ := hm
    refine flAtM (s := 1) (enc := i64) (j := v7) rfl rfl rfl rfl hx9 ?_; ((conv=>whnf);repeat (first|apply Hs|apply Hx);conv=>whnf)
    refine ⟨_, (rfl : aread _ _ _ _ = some _), ?_⟩; ((conv=>whnf);repeat (first|apply Hs|apply Hx);conv=>whnf)
    refine ⟨.inl rfl, ?_⟩; ((conv=>whnf);repeat (first|apply Hs|apply Hx);conv=>whnf)
    refine ⟨_, shiftK (.inr rfl) rfl rfl (shr_small p1 v7 hm.1), ?_⟩; ((conv=>whnf);repeat (first|apply Hs|apply Hx);conv=>whnf)
    replace hm := hm.2
    refine ⟨_, remK (a := (p1 / 2 ^ v7)) (b := 2) rfl rfl hm.1, ?_⟩; ((conv=>whnf);repeat (first|apply Hs|apply Hx);conv=>whnf)
    replace hm := hm.2
    refine ⟨_, convWrapK (a := Int.ofNat ((p1 / 2 ^ v7) % 2)) (b := Int.ofNat (((p1 / 2 ^ v7) % 2) % 256)) rfl rfl rfl rfl, ?_⟩; ((conv=>whnf);repeat (first|apply Hs|apply Hx);conv=>whnf)
    refine ⟨.inl rfl, ?_⟩; ((conv=>whnf);repeat (first|apply Hs|apply Hx);conv=>whnf)
    obtain ⟨hj, x10, hx10, hm⟩ := hm
    refine indexK (s := 1) (j := x9) rfl rfl rfl rfl hj ?_; ((conv=>whnf);repeat (first|apply Hs|apply Hx);conv=>whnf)
    refine O.store (n := 1) (.head _) rfl rfl rfl rfl (el_le (enc := n8) (s := 1) (k := 0) (n := 1) (fun _ => rfl) (lt_of_get hx10) (Nat.le_of_ble_eq_true rfl)) rfl (splice_all (enc := n8) (s := 1) (fun _ => rfl) (lt_of_get hx10) (x := (((p1 / 2 ^ v7) % 2) % 256)) rfl) fun h O => ?_; ((conv=>whnf);repeat (first|apply Hs|apply Hx);conv=>whnf)
    refine ⟨.inl rfl, ?_⟩; ((conv=>whnf);repeat (first|apply Hs|apply Hx);conv=>whnf)
    apply Cs;((conv=>whnf);repeat (first|apply Cs|apply Hs|apply Hx);conv=>whnf)
    refine ⟨_, addK (a := v7) (b := 1) rfl rfl hm.1, ?_⟩; ((conv=>whnf);repeat (first|apply Hs|apply Hx);conv=>whnf)
    replace hm := hm.2
    exact ⟨(((v6.set x9 (((p1 / 2 ^ v7) % 2) % 256)), (v7 + 1)), ()), hm, ⟨O, trivial⟩, VLe.refl _ _, VLe.refl _ _, VLe.refl _ _, VLe.refl _ _, VLe.refl _ _, trivial⟩
   ·replace hm := hm.2 hc
    apply Cs;((conv=>whnf);repeat (first|apply Cs|apply Hs|apply Hx);conv=>whnf)
    exact ⟨(v6, ()), hm, ⟨O, trivial⟩, VLe.refl _ _, VLe.refl _ _, trivial⟩
  ·clear hm; rintro ⟨v4, _⟩ base h hm ⟨O, _⟩
   ((conv=>whnf);repeat (first|apply Cs|apply Hs|apply Hx);conv=>whnf)
   refine ⟨_, (rfl : aread _ _ _ _ = some _), ?_⟩; ((conv=>whnf);repeat (first|apply Hs|apply Hx);conv=>whnf)
   obtain ⟨r11, hm, hcall⟩ := netlists_Order_walk hm O.has
   refine ⟨_, _, hcall, ?_⟩; ((conv=>whnf);repeat (first|apply Hs|apply Hx);conv=>whnf)
   refine CodeS.joinWS hm (nn := 106) (σ := (List Nat) × Unit) (fun s => s.1) (fun (v12, _) h => Own vars h0 [((some g1), .cells (flatC (v12.map n8)) false)] h ∧ True) (fun (v12, _) => [(5, (.slice (some ⟨g1, 0, none⟩) p0.nodes.length p0.nodes.length))]) rfl (fun hm' => ?_) ?_
   ·replace hm := hm'
    apply Cs;((conv=>whnf);repeat (first|apply Cs|apply Hs|apply Hx);conv=>whnf)
    refine loopWK hM (by kernel_rfl) (nn := 106) (S := ((List Nat) × Nat)) (σ := ((List Nat) × Nat) × Unit) (fun s => s.1) (fun ((v14, v15), _) h => Own vars h0 [((some g1), .cells (flatC (v14.map n8)) false)] h ∧ True) (fun ((v14, v15), _) => [(2, (FP (encCirc p0))), (5, (.slice (some ⟨g1, 0, none⟩) p0.nodes.length p0.nodes.length)), (8, ((encL 1 i64) r11.1)), (10, (i64 v15))]) rfl ((v4, 0), ()) hm ⟨O, trivial⟩ ⟨VLe.refl _ _, VLe.refl _ _, VLe.refl _ _, VLe.refl _ _, trivial⟩ ?_
    clear hm; rintro ⟨⟨v14, v15⟩, _⟩ nx16 base h hm ⟨O, _⟩
    ((conv=>whnf);repeat (first|apply Cs|apply Hs|apply Hx);conv=>whnf)
    refine lenM (s := 1) (enc := i64) (l := r11.1) rfl rfl ?_; ((conv=>whnf);repeat (first|apply Cs|apply Hs|apply Hx);conv=>whnf)
    refine ⟨_, rfl, fun hc => ?_, fun hc => ?_⟩
    ·replace hm := hm.1 hc
     apply Cs;conv=>whnf
     refine CodeS.joinWS hm (nn := 106) (σ := (List Nat) × Unit) (fun s => s.1) (fun (v17, _) h => Own vars h0 [((some g1), .cells (flatC (v17.map n8)) false)] h ∧ True) (fun (v17, _) => [(2, (FP (encCirc p0))), (5, (.slice (some ⟨g1, 0, none⟩) p0.nodes.length p0.nodes.length)), (8, ((encL 1 i64) r11.1)), (10, (i64 v15))]) rfl (fun hm' => ?_) ?_
     ·replace hm := hm'
      apply Cs;((conv=>whnf);repeat (first|apply Cs|apply Hs|apply Hx);conv=>whnf)
      obtain ⟨x19, hx19, hm⟩ := hm
      refine flAtM (s := 1) (enc := i64) (j := v15) rfl rfl rfl rfl hx19 ?_; ((conv=>whnf);repeat (first|apply Hs|apply Hx);conv=>whnf)
      refine ⟨_, (rfl : aread _ _ _ _ = some _), ?_⟩; ((conv=>whnf);repeat (first|apply Hs|apply Hx);conv=>whnf)
      apply Cs;conv=>whnf
      refine CodeS.joinWS hm (nn := 106) (σ := Bool × Unit) (fun s => s.1) (fun (v20, _) h => Own vars h0 [((some g1), .cells (flatC (v14.map n8)) false)] h ∧ True) (fun (v20, _) => [(2, (FP (encCirc p0))), (5, (.slice (some ⟨g1, 0, none⟩) p0.nodes.length p0.nodes.length)), (8, ((encL 1 i64) r11.1)), (10, (i64 v15)), (11, (i64 x19)), (67, (.bool v20))]) rfl (fun hm' => ?_) ?_
      ·replace hm := hm'
       apply Cs;((conv=>whnf);repeat (first|apply Cs|apply Hs|apply Hx);conv=>whnf)
       refine ⟨_, (rfl : aread _ _ _ _ = some _), ?_⟩; ((conv=>whnf);repeat (first|apply Hs|apply Hx);conv=>whnf)
       obtain ⟨x22, hx22, hm⟩ := hm
       refine flAtM (s := 4) (enc := encNode) (j := x19) rfl rfl rfl rfl hx22 ?_; ((conv=>whnf);repeat (first|apply Hs|apply Hx);conv=>whnf)
       refine ⟨_, (rfl : aread _ _ _ _ = some _), ?_⟩; ((conv=>whnf);repeat (first|apply Hs|apply Hx);conv=>whnf)
       refine ⟨_, rfl, fun hc => ?_, fun hc => ?_⟩
       ·replace hm := hm.1 hc; ((conv=>whnf);repeat (first|apply Hs|apply Hx);conv=>whnf)
        exact ⟨(true, ()), hm, ⟨O, trivial⟩, VLe.refl _ _, VLe.refl _ _, VLe.refl _ _, VLe.refl _ _, VLe.refl _ _, VLe.refl _ _, trivial⟩
       ·replace hm := hm.2 hc; ((conv=>whnf);repeat (first|apply Hs|apply Hx);conv=>whnf)
        refine ⟨_, (rfl : aread _ _ _ _ = some _), ?_⟩; ((conv=>whnf);repeat (first|apply Hs|apply Hx);conv=>whnf)
        obtain ⟨x23, hx23, hm⟩ := hm
        refine flAtM (s := 4) (enc := encNode) (j := x19) rfl rfl rfl rfl hx23 ?_; ((conv=>whnf);repeat (first|apply Hs|apply Hx);conv=>whnf)
        refine ⟨_, (rfl : aread _ _ _ _ = some _), ?_⟩; ((conv=>whnf);repeat (first|apply Hs|apply Hx);conv=>whnf)
        exact ⟨((eqN x23.kind 14), ()), hm, ⟨O, trivial⟩, VLe.refl _ _, VLe.refl _ _, VLe.refl _ _, VLe.refl _ _, VLe.refl _ _, VLe.refl _ _, trivial⟩
      ·clear hm; rintro ⟨v20, _⟩ base h hm ⟨O, _⟩
       ((conv=>whnf);repeat (first|apply Cs|apply Hs|apply Hx);conv=>whnf)
       refine ⟨_, rfl, fun hc => ?_, fun hc => ?_⟩
       ·replace hm := hm.1 hc
        apply Cs;((conv=>whnf);repeat (first|apply Cs|apply Hs|apply Hx);conv=>whnf)
        exact ⟨(v14, ()), hm, ⟨O, trivial⟩, VLe.refl _ _, VLe.refl _ _, VLe.refl _ _, VLe.refl _ _, trivial⟩
       ·replace hm := hm.2 hc
        apply Cs;conv=>whnf
        apply Cs;conv=>whnf
        apply Cs;((conv=>whnf);repeat (first|apply Hs|apply Hx);conv=>whnf)
        have O := O.addNil (.cells (flatC ((([] : List Nat)).map n8)) false)
        refine CodeS.joinWS hm (nn := 106) (σ := (List Nat) × Option Nat) (fun s => s.1) (fun (v26, a25) h => (a25 = none → v26 = []) ∧ Own vars h0 [((some g1), .cells (flatC (v14.map n8)) false), (a25, .cells (flatC (v26.map n8)) false)] h ∧ True) (fun (v26, a25) => [(2, (FP (encCirc p0))), (5, (.slice (some ⟨g1, 0, none⟩) p0.nodes.length p0.nodes.length)), (8, ((encL 1 i64) r11.1)), (10, (i64 v15)), (11, (i64 x19)), (12, (growV 1 a25 (v26.map n8)))]) rfl (fun hm' => ?_) ?_
        ·replace hm := hm'
         apply Cs;((conv=>whnf);repeat (first|apply Cs|apply Hs|apply Hx);conv=>whnf)
         refine loopWK hM (by kernel_rfl) (nn := 106) (S := ((List Nat) × Nat)) (σ := ((List Nat) × Nat) × Option Nat) (fun s => s.1) (fun ((v30, v31), a29) h => (a29 = none → v30 = []) ∧ Own vars h0 [((some g1), .cells (flatC (v14.map n8)) false), (a29, .cells (flatC (v30.map n8)) false)] h ∧ True) (fun ((v30, v31), a29) => [(2, (FP (encCirc p0))), (5, (.slice (some ⟨g1, 0, none⟩) p0.nodes.length p0.nodes.length)), (8, ((encL 1 i64) r11.1)), (10, (i64 v15)), (11, (i64 x19)), (12, (growV 1 a29 (v30.map n8))), (13, (i64 v31))]) rfl ((([] : List Nat), 0), none) hm ⟨(fun _ => rfl), (O.sel [1, 0] (by decide)), trivial⟩ ⟨VLe.refl _ _, VLe.refl _ _, VLe.refl _ _, VLe.refl _ _, VLe.refl _ _, VLe.refl _ _, VLe.refl _ _, trivial⟩ ?_
         clear hm; rintro ⟨⟨v30, v31⟩, a29⟩ nx33 base h hm ⟨ha32, O, _⟩
         ((conv=>whnf);repeat (first|apply Cs|apply Hs|apply Hx);conv=>whnf)
         refine ⟨_, (rfl : aread _ _ _ _ = some _), ?_⟩; ((conv=>whnf);repeat (first|apply Hs|apply Hx);conv=>whnf)
         obtain ⟨x34, hx34, hm⟩ := hm
         refine flAtM (s := 4) (enc := encNode) (j := x19) rfl rfl rfl rfl hx34 ?_; ((conv=>whnf);repeat (first|apply Hs|apply Hx);conv=>whnf)
         refine ⟨_, (rfl : aread _ _ _ _ = some _), ?_⟩; ((conv=>whnf);repeat (first|apply Hs|apply Hx);conv=>whnf)
         refine lenM (s := 1) (enc := i64) (l := x34.ins) rfl rfl ?_; ((conv=>whnf);repeat (first|apply Cs|apply Hs|apply Hx);conv=>whnf)
         refine ⟨_, rfl, fun hc => ?_, fun hc => ?_⟩
         ·replace hm := hm.1 hc
          apply Cs;((conv=>whnf);repeat (first|apply Cs|apply Hs|apply Hx);conv=>whnf)
          refine ⟨_, (rfl : aread _ _ _ _ = some _), ?_⟩; ((conv=>whnf);repeat (first|apply Hs|apply Hx);conv=>whnf)
          obtain ⟨x35, hx35, hm⟩ := hm
          refine flAtM (s := 4) (enc := encNode) (j := x19) rfl rfl rfl rfl hx35 ?_; ((conv=>whnf);repeat (first|apply Hs|apply Hx);conv=>whnf)
          refine ⟨_, (rfl : aread _ _ _ _ = some _), ?_⟩; ((conv=>whnf);repeat (first|apply Hs|apply Hx);conv=>whnf)
          obtain ⟨x36, hx36, hm⟩ := hm
          refine flAtM (s := 1) (enc := i64) (j := v31) rfl rfl rfl rfl hx36 ?_; ((conv=>whnf);repeat (first|apply Hs|apply Hx);conv=>whnf)
          refine ⟨_, (rfl : aread _ _ _ _ = some _), ?_⟩; ((conv=>whnf);repeat (first|apply Hs|apply Hx);conv=>whnf)
          obtain ⟨hj, x37, hx37, hm⟩ := hm
          refine indexK (s := 1) (j := x36) rfl rfl rfl rfl hj ?_; ((conv=>whnf);repeat (first|apply Hs|apply Hx);conv=>whnf)
          refine ⟨_, loadK rfl (O.at (.head _)) rfl (cell_map (enc := n8) (s := 1) (k := 0) (fun _ => rfl) hx37 rfl), ?_⟩; ((conv=>whnf);repeat (first|apply Hs|apply Hx);conv=>whnf)
          refine NewG.frz rfl ?_; ((conv=>whnf);repeat (first|apply Hs|apply Hx);conv=>whnf)
          refine O.appendL (enc := n8) (l := v30) (new := ([x37] : (List Nat))) (s := 1) (b := 1) (.tail _ (.head _)) ha32 rfl rfl rfl rfl rfl rfl rfl rfl (YOk.fl rfl) (fun _ => rfl) (fun _ => rfl) (by decide) hm.1 fun a38 h ha39 O => ?_; ((conv=>whnf);repeat (first|apply Cs|apply Hs|apply Hx);conv=>whnf)
          replace hm := hm.2
          refine ⟨_, addK (a := v31) (b := 1) rfl rfl hm.1, ?_⟩; ((conv=>whnf);repeat (first|apply Hs|apply Hx);conv=>whnf)
          replace hm := hm.2
          exact ⟨(((v30 ++ ([x37] : (List Nat))), (v31 + 1)), a38), hm, ⟨ha39, O, trivial⟩, VLe.refl _ _, VLe.refl _ _, VLe.refl _ _, VLe.refl _ _, VLe.refl _ _, VLe.refl _ _, VLe.refl _ _, trivial⟩
         ·replace hm := hm.2 hc
          apply Cs;((conv=>whnf);repeat (first|apply Cs|apply Hs|apply Hx);conv=>whnf)
          exact ⟨(v30, a29), hm, ⟨ha32, O, trivial⟩, VLe.refl _ _, VLe.refl _ _, VLe.refl _ _, VLe.refl _ _, VLe.refl _ _, VLe.refl _ _, trivial⟩
        ·clear hm; rintro ⟨v26, a25⟩ base h hm ⟨ha27, O, _⟩
         ((conv=>whnf);repeat (first|apply Cs|apply Hs|apply Hx);conv=>whnf)
         refine ⟨_, (rfl : aread _ _ _ _ = some _), ?_⟩; ((conv=>whnf);repeat (first|apply Hs|apply Hx);conv=>whnf)
         obtain ⟨x40, hx40, hm⟩ := hm
         refine flAtM (s := 4) (enc := encNode) (j := x19) rfl rfl rfl rfl hx40 ?_; ((conv=>whnf);repeat (first|apply Hs|apply Hx);conv=>whnf)
         refine ⟨_, (rfl : aread _ _ _ _ = some _), ?_⟩; ((conv=>whnf);repeat (first|apply Hs|apply Hx);conv=>whnf)
         refine CallD.useB (fun _ hb => logic_Eval_walk hm hb) (fun _ => flatB_ok rfl) fzVars O.has (fun h2 F => (LLe.cons (VLe.refl _ _) (LLe.cons (O.grownL F (Nat.zero_le _) (.tail _ (.head _)) ha27 (fun _ => rfl)) (LLe.nil _)))) (by kernel_rfl) (fun r41 hm' => ?_); replace hm := hm'; ((conv=>whnf);repeat (first|apply Hs|apply Hx);conv=>whnf)
         obtain ⟨hj, x42, hx42, hm⟩ := hm
         refine indexK (s := 1) (j := x19) rfl rfl rfl rfl hj ?_; ((conv=>whnf);repeat (first|apply Hs|apply Hx);conv=>whnf)
         refine O.store (n := 1) (.head _) rfl rfl rfl rfl (el_le (enc := n8) (s := 1) (k := 0) (n := 1) (fun _ => rfl) (lt_of_get hx42) (Nat.le_of_ble_eq_true rfl)) rfl (splice_all (enc := n8) (s := 1) (fun _ => rfl) (lt_of_get hx42) (x := r41) rfl) fun h O => ?_; ((conv=>whnf);repeat (first|apply Hs|apply Hx);conv=>whnf)
         exact ⟨((v14.set x19 r41), ()), hm, ⟨(O.sel [0] (by decide)), trivial⟩, VLe.refl _ _, VLe.refl _ _, VLe.refl _ _, VLe.refl _ _, trivial⟩
     ·clear hm; rintro ⟨v17, _⟩ base h hm ⟨O, _⟩
      ((conv=>whnf);repeat (first|apply Cs|apply Hs|apply Hx);conv=>whnf)
      refine ⟨_, addK (a := v15) (b := 1) rfl rfl hm.1, ?_⟩; ((conv=>whnf);repeat (first|apply Hs|apply Hx);conv=>whnf)
      replace hm := hm.2
      exact ⟨((v17, (v15 + 1)), ()), hm, ⟨O, trivial⟩, VLe.refl _ _, VLe.refl _ _, VLe.refl _ _, VLe.refl _ _, trivial⟩
    ·replace hm := hm.2 hc
     apply Cs;((conv=>whnf);repeat (first|apply Cs|apply Hs|apply Hx);conv=>whnf)
     exact ⟨(v14, ()), hm, ⟨O, trivial⟩, VLe.refl _ _, trivial⟩
   ·clear hm; rintro ⟨v12, _⟩ base h hm ⟨O, _⟩
    ((conv=>whnf);repeat (first|apply Cs|apply Hs|apply Hx);conv=>whnf)
    obtain ⟨hn43, hm⟩ := hm
    exact ⟨v12, hm, O.ext, fun h2 F => O.flatL F (Nat.le_refl _) (.head _) (fun _ => rfl) hn43⟩
def probecardlaw24_Given_wp (p0 : Nat) (p1 : (List U2)) (K : (List Asg) → Prop) : Prop :=
  joinW (α := (List Asg)) (fun k6 => loopW (S := ((List Asg) × Nat)) (fun (v8, v9) nx11 => joinW (α := Bool) (fun k14 => ((ltN v9 p1.length) = true → k14 (ltN 0 p0)) ∧ ((ltN v9 p1.length) = false → k14 false)) (fun v12 => (v12 = true → ∃ x15, p1[v9]? = some x15 ∧ x15.a < 256 ∧ 0 < p0 ∧ ∃ x16, p1[v9]? = some x16 ∧ 0 < 2 ∧ (v8.length + ([(⟨(x15.a % p0), (x16.b % 2)⟩ : Asg)] : (List Asg)).length) * 16 ≤ 2 ^ 47 ∧ v9 + 1 < 2 ^ 63 ∧ nx11 ((v8 ++ ([(⟨(x15.a % p0), (x16.b % 2)⟩ : Asg)] : (List Asg))), (v9 + 1))) ∧ (v12 = false → k6 v8))) (([] : List Asg), 0)) (fun v4 => K v4)
theorem probecardlaw24_Given_walk {p0 : Nat} {p1 : (List U2)} {K : (List Asg) → Prop} (hm : probecardlaw24_Given_wp p0 p1 K) {h0 : Heap} (hB : HasB vars h0) : ∃ r, K r ∧ CallD Tryd.prog NG 15 ⟨[i64 p0, (encL 2 encU2) p1]⟩ h0 ((encL 2 encAsg) r) h0 := by
  unfold probecardlaw24_Given_wp at hm
  refine fnW hM Tryd.func15 rfl (hP _ _ rfl Tryd.func15) (Nat.le_of_ble_eq_true rfl) hB (enc := (encL 2 encAsg)) (fun r => pureL (fun _ => pure_asgC _)) fun O => ?_; conv=>whnf
  apply Cs;conv=>whnf
  apply Cs;((conv=>whnf);repeat (first|apply Hs|apply Hx);conv=>whnf)
  have O := O.addNil (.cells (flatC ((([] : List Asg)).map encAsg)) false)
  apply Cs;conv=>whnf
  apply Cs;((conv=>whnf);repeat (first|apply Hs|apply Hx);conv=>whnf)
  have O := O.addNil (.cells (flatC ((([] : List Asg)).map encAsg)) false)
  refine CodeS.joinWS hm (nn := 36) (σ := (List Asg) × Option Nat) (fun s => s.1) (fun (v4, a3) h => (a3 = none → v4 = []) ∧ Own vars h0 [(a3, .cells (flatC (v4.map encAsg)) false)] h ∧ True) (fun (v4, a3) => [(5, (growV 2 a3 (v4.map encAsg)))]) rfl (fun hm' => ?_) ?_
  ·replace hm := hm'
   apply Cs;((conv=>whnf);repeat (first|apply Cs|apply Hs|apply Hx);conv=>whnf)
   refine loopWK hM (by kernel_rfl) (nn := 36) (S := ((List Asg) × Nat)) (σ := ((List Asg) × Nat) × Option Nat) (fun s => s.1) (fun ((v8, v9), a7) h => (a7 = none → v8 = []) ∧ Own vars h0 [(a7, .cells (flatC (v8.map encAsg)) false)] h ∧ True) (fun ((v8, v9), a7) => [(0, (i64 p0)), (1, ((encL 2 encU2) p1)), (5, (growV 2 a7 (v8.map encAsg))), (6, (i64 v9))]) rfl ((([] : List Asg), 0), none) hm ⟨(fun _ => rfl), (O.sel [0] (by decide)), trivial⟩ ⟨VLe.refl _ _, VLe.refl _ _, VLe.refl _ _, VLe.refl _ _, trivial⟩ ?_
   clear hm; rintro ⟨⟨v8, v9⟩, a7⟩ nx11 base h hm ⟨ha10, O, _⟩
   conv=>whnf
   apply Cs;conv=>whnf
   refine CodeS.joinWS hm (nn := 36) (σ := Bool × Unit) (fun s => s.1) (fun (v12, _) h => (a7 = none → v8 = []) ∧ Own vars h0 [(a7, .cells (flatC (v8.map encAsg)) false)] h ∧ True) (fun (v12, _) => [(0, (i64 p0)), (1, ((encL 2 encU2) p1)), (5, (growV 2 a7 (v8.map encAsg))), (6, (i64 v9)), (14, (.bool v12))]) rfl (fun hm' => ?_) ?_
   ·replace hm := hm'
    apply Cs;((conv=>whnf);repeat (first|apply Cs|apply Hs|apply Hx);conv=>whnf)
    refine lenM (s := 2) (enc := encU2) (l := p1) rfl rfl ?_; ((conv=>whnf);repeat (first|apply Hs|apply Hx);conv=>whnf)
    refine ⟨_, rfl, fun hc => ?_, fun hc => ?_⟩
    ·replace hm := hm.1 hc; ((conv=>whnf);repeat (first|apply Hs|apply Hx);conv=>whnf)
     exact ⟨((ltN 0 p0), ()), hm, ⟨ha10, O, trivial⟩, VLe.refl _ _, VLe.refl _ _, VLe.refl _ _, VLe.refl _ _, VLe.refl _ _, trivial⟩
    ·replace hm := hm.2 hc; ((conv=>whnf);repeat (first|apply Hs|apply Hx);conv=>whnf)
     exact ⟨(false, ()), hm, ⟨ha10, O, trivial⟩, VLe.refl _ _, VLe.refl _ _, VLe.refl _ _, VLe.refl _ _, VLe.refl _ _, trivial⟩
   ·clear hm; rintro ⟨v12, _⟩ base h hm ⟨ha13, O, _⟩
    ((conv=>whnf);repeat (first|apply Cs|apply Hs|apply Hx);conv=>whnf)
    refine ⟨_, rfl, fun hc => ?_, fun hc => ?_⟩
    ·replace hm := hm.1 hc
     apply Cs;((conv=>whnf);repeat (first|apply Cs|apply Hs|apply Hx);conv=>whnf)
     obtain ⟨x15, hx15, hm⟩ := hm
     refine flAtM (s := 2) (enc := encU2) (j := v9) rfl rfl rfl rfl hx15 ?_; ((conv=>whnf);repeat (first|apply Hs|apply Hx);conv=>whnf)
     refine idxR rfl ?_; ((conv=>whnf);repeat (first|apply Hs|apply Hx);conv=>whnf)
     refine ⟨_, (rfl : aread _ _ _ _ = some _), ?_⟩; ((conv=>whnf);repeat (first|apply Hs|apply Hx);conv=>whnf)
     refine ⟨.inl rfl, ?_⟩; ((conv=>whnf);repeat (first|apply Hs|apply Hx);conv=>whnf)
     refine ⟨_, convIntK (a := Int.ofNat x15.a) rfl rfl rfl (wrapI64 (Nat.lt_of_lt_of_le hm.1 (by decide))), ?_⟩; ((conv=>whnf);repeat (first|apply Hs|apply Hx);conv=>whnf)
     refine ⟨.inl rfl, ?_⟩; ((conv=>whnf);repeat (first|apply Hs|apply Hx);conv=>whnf)
     replace hm := hm.2
     refine ⟨_, remK (a := x15.a) (b := p0) rfl rfl hm.1, ?_⟩; ((conv=>whnf);repeat (first|apply Hs|apply Hx);conv=>whnf)
     replace hm := hm.2
     obtain ⟨x16, hx16, hm⟩ := hm
     refine flAtM (s := 2) (enc := encU2) (j := v9) rfl rfl rfl rfl hx16 ?_; ((conv=>whnf);repeat (first|apply Hs|apply Hx);conv=>whnf)
     refine idxR rfl ?_; ((conv=>whnf);repeat (first|apply Hs|apply Hx);conv=>whnf)
     refine ⟨_, (rfl : aread _ _ _ _ = some _), ?_⟩; ((conv=>whnf);repeat (first|apply Hs|apply Hx);conv=>whnf)
     refine ⟨.inl rfl, ?_⟩; ((conv=>whnf);repeat (first|apply Hs|apply Hx);conv=>whnf)
     refine ⟨_, remK (a := x16.b) (b := 2) rfl rfl hm.1, ?_⟩; ((conv=>whnf);repeat (first|apply Hs|apply Hx);conv=>whnf)
     replace hm := hm.2
     refine O.buildLX (l := ([(⟨(x15.a % p0), (x16.b % 2)⟩ : Asg)] : (List Asg))) (enc := encAsg) (s := 2) (z := (.agg ⟨[(i64 0), (n8 0)]⟩)) rfl rfl (by kernel_rfl) (by kernel_rfl) rfl rfl rfl rfl (fun _ => rfl) fun g17 h O => ?_; ((conv=>whnf);repeat (first|apply Hs|apply Hx);conv=>whnf)
     refine O.appendL (enc := encAsg) (l := v8) (new := ([(⟨(x15.a % p0), (x16.b % 2)⟩ : Asg)] : (List Asg))) (s := 2) (b := 16) (.tail _ (.head _)) ha13 rfl rfl rfl rfl rfl rfl rfl rfl (YOk.own (O.at (.head _)) rfl (fun _ => rfl) rfl) (fun _ => rfl) (fun _ => rfl) (by decide) hm.1 fun a19 h ha20 O => ?_; ((conv=>whnf);repeat (first|apply Hs|apply Hx);conv=>whnf)
     refine ⟨.inl rfl, ?_⟩; ((conv=>whnf);repeat (first|apply Hs|apply Hx);conv=>whnf)
     replace hm := hm.2
     apply Cs;((conv=>whnf);repeat (first|apply Cs|apply Hs|apply Hx);conv=>whnf)
     refine ⟨_, addK (a := v9) (b := 1) rfl rfl hm.1, ?_⟩; ((conv=>whnf);repeat (first|apply Hs|apply Hx);conv=>whnf)
     replace hm := hm.2
     exact ⟨(((v8 ++ ([(⟨(x15.a % p0), (x16.b % 2)⟩ : Asg)] : (List Asg))), (v9 + 1)), a19), hm, ⟨ha20, (O.sel [1] (by decide)), trivial⟩, VLe.refl _ _, VLe.refl _ _, VLe.refl _ _, VLe.refl _ _, trivial⟩
    ·replace hm := hm.2 hc
     apply Cs;((conv=>whnf);repeat (first|apply Cs|apply Hs|apply Hx);conv=>whnf)
     exact ⟨(v8, a7), hm, ⟨ha13, O, trivial⟩, VLe.refl _ _, trivial⟩
  ·clear hm; rintro ⟨v4, a3⟩ base h hm ⟨ha5, O, _⟩
   ((conv=>whnf);repeat (first|apply Cs|apply Hs|apply Hx);conv=>whnf)
   exact ⟨v4, hm, O.ext, fun h2 F => O.grownL F (Nat.le_refl _) (.head _) ha5 (fun _ => rfl)⟩
def probecardlaw24_Small_wp (p0 : CData) (p1 : Nat) (K : (Circ × (List Nat)) → Prop) : Prop :=
  law24_Plain_wp p0 (fun r3 => probecardlaw24_Free_wp r3 (fun r6 => joinW (α := Bool) (fun k8 => ((ltN 30 r3.nodes.length) = true → k8 true) ∧ ((ltN 30 r3.nodes.length) = false → k8 (ltN p1 r6.length))) (fun v7 => (v7 = true → K ((⟨[], [], [], []⟩ : Circ), [])) ∧ (v7 = false → K (r3, r6)))))
theorem probecardlaw24_Small_walk {p0 : CData} {p1 : Nat} {K : (Circ × (List Nat)) → Prop} (hm : probecardlaw24_Small_wp p0 p1 K) {h0 : Heap} (hB : HasB vars h0) : ∃ r, K r ∧ CallD Tryd.prog NG 14 ⟨[encC p0, i64 p1]⟩ h0 ((fun (r : (Circ × (List Nat))) => Value.tuple ⟨[encCirc (r.1), (encL 1 i64) (r.2)]⟩) r) h0 := by
  unfold probecardlaw24_Small_wp at hm
  refine fnW hM Tryd.func14 rfl (hP _ _ rfl Tryd.func14) (Nat.le_of_ble_eq_true rfl) hB (enc := (fun (r : (Circ × (List Nat))) => Value.tuple ⟨[encCirc (r.1), (encL 1 i64) (r.2)]⟩)) (fun r => PureV.tup (AllPure.cons (pure_circ _) (AllPure.cons (pureL (fun _ => AllPure.cons (PureV.flat rfl) AllPure.nil)) (AllPure.nil)))) fun O => ?_; conv=>whnf
  apply Cs;((conv=>whnf);repeat (first|apply Cs|apply Hs|apply Hx);conv=>whnf)
  refine NewG.frz rfl ?_; ((conv=>whnf);repeat (first|apply Hs|apply Hx);conv=>whnf)
  refine O.new (anew_alloc (l := [(.slice none 0 0), (.slice none 0 0), (.slice none 0 0), (.slice none 0 0)]) rfl rfl rfl) fun g1 h O => ?_; ((conv=>whnf);repeat (first|apply Hs|apply Hx);conv=>whnf)
  apply Cs;((conv=>whnf);repeat (first|apply Cs|apply Hs|apply Hx);conv=>whnf)
  refine ⟨_, (rfl : aread _ _ _ _ = some _), ?_⟩; ((conv=>whnf);repeat (first|apply Hs|apply Hx);conv=>whnf)
  obtain ⟨r3, hm, hcall⟩ := law24_Plain_walk hm O.has
  refine ⟨_, _, hcall, ?_⟩; ((conv=>whnf);repeat (first|apply Hs|apply Hx);conv=>whnf)
  refine O.new (anew_alloc (l := [(.slice none 0 0), (.slice none 0 0), (.slice none 0 0), (.slice none 0 0)]) rfl rfl rfl) fun g4 h O => ?_; ((conv=>whnf);repeat (first|apply Hs|apply Hx);conv=>whnf)
  refine O.store (n := 4) (cs' := [((encL 4 encNode) r3.nodes), ((encL 1 Value.string) r3.names), ((encL 3 encMem) r3.mems), ((encL 1 i64) r3.outs)]) (.head _) rfl rfl rfl rfl (Nat.le_of_ble_eq_true rfl) rfl rfl fun h O => ?_; ((conv=>whnf);repeat (first|apply Cs|apply Hs|apply Hx);conv=>whnf)
  refine ⟨_, loadAggK rfl (O.at (.head _)) rfl rfl (Nat.le_of_ble_eq_true rfl) rfl, ?_⟩; ((conv=>whnf);repeat (first|apply Hs|apply Hx);conv=>whnf)
  obtain ⟨r6, hm, hcall⟩ := probecardlaw24_Free_walk hm O.has
  refine ⟨_, _, hcall, ?_⟩; ((conv=>whnf);repeat (first|apply Hs|apply Hx);conv=>whnf)
  apply Cs;conv=>whnf
  refine CodeS.joinWS hm (nn := 25) (σ := Bool × Unit) (fun s => s.1) (fun (v7, _) h => Own vars h0 [((some g1), .cells [(.slice none 0 0), (.slice none 0 0), (.slice none 0 0), (.slice none 0 0)] false), ((some g4), .cells [((encL 4 encNode) r3.nodes), ((encL 1 Value.string) r3.names), ((encL 3 encMem) r3.mems), ((encL 1 i64) r3.outs)] false)] h ∧ True) (fun (v7, _) => [(4, (.pointer (some ⟨g1, 0, none⟩))), (6, (.pointer (some ⟨g4, 0, none⟩))), (7, ((encL 1 i64) r6)), (21, (.bool v7))]) rfl (fun hm' => ?_) ?_
  ·replace hm := hm'
   apply Cs;((conv=>whnf);repeat (first|apply Cs|apply Hs|apply Hx);conv=>whnf)
   refine ⟨_, loadK rfl (O.at (.head _)) rfl rfl, ?_⟩; ((conv=>whnf);repeat (first|apply Hs|apply Hx);conv=>whnf)
   refine lenM (s := 4) (enc := encNode) (l := r3.nodes) rfl rfl ?_; ((conv=>whnf);repeat (first|apply Hs|apply Hx);conv=>whnf)
   refine ⟨_, rfl, fun hc => ?_, fun hc => ?_⟩
   ·replace hm := hm.1 hc; ((conv=>whnf);repeat (first|apply Hs|apply Hx);conv=>whnf)
    exact ⟨(true, ()), hm, ⟨(O.sel [1, 0] (by decide)), trivial⟩, VLe.refl _ _, VLe.refl _ _, VLe.refl _ _, VLe.refl _ _, trivial⟩
   ·replace hm := hm.2 hc; ((conv=>whnf);repeat (first|apply Hs|apply Hx);conv=>whnf)
    refine lenM (s := 1) (enc := i64) (l := r6) rfl rfl ?_; ((conv=>whnf);repeat (first|apply Hs|apply Hx);conv=>whnf)
    exact ⟨((ltN p1 r6.length), ()), hm, ⟨(O.sel [1, 0] (by decide)), trivial⟩, VLe.refl _ _, VLe.refl _ _, VLe.refl _ _, VLe.refl _ _, trivial⟩
  ·clear hm; rintro ⟨v7, _⟩ base h hm ⟨O, _⟩
   ((conv=>whnf);repeat (first|apply Cs|apply Hs|apply Hx);conv=>whnf)
   refine ⟨_, rfl, fun hc => ?_, fun hc => ?_⟩
   ·replace hm := hm.1 hc
    apply Cs;((conv=>whnf);repeat (first|apply Cs|apply Hs|apply Hx);conv=>whnf)
    refine O.store (n := 4) (cs' := [(.slice none 0 0), (.slice none 0 0), (.slice none 0 0), (.slice none 0 0)]) (.head _) rfl rfl rfl rfl (Nat.le_of_ble_eq_true rfl) rfl rfl fun h O => ?_; ((conv=>whnf);repeat (first|apply Cs|apply Hs|apply Hx);conv=>whnf)
    refine ⟨_, resAggK rfl rfl (O.at (.head _)) rfl rfl (Nat.le_of_ble_eq_true rfl) rfl, ?_⟩; conv=>whnf
    exact ⟨((⟨[], [], [], []⟩ : Circ), []), hm, O.ext, fun h2 F => VLe.tup (LLe.cons (VLe.agg (LLe.cons (VLe.nil _ _) (LLe.cons (VLe.nil _ _) (LLe.cons (VLe.nil _ _) (LLe.cons (VLe.nil _ _) (LLe.nil _)))))) (LLe.cons (VLe.nil _ _) (LLe.nil _)))⟩
   ·replace hm := hm.2 hc
    apply Cs;((conv=>whnf);repeat (first|apply Cs|apply Hs|apply Hx);conv=>whnf)
    refine ⟨_, loadAggK rfl (O.at (.tail _ (.head _))) rfl rfl (Nat.le_of_ble_eq_true rfl) rfl, ?_⟩; ((conv=>whnf);repeat (first|apply Hs|apply Hx);conv=>whnf)
    refine O.store (n := 4) (cs' := [((encL 4 encNode) r3.nodes), ((encL 1 Value.string) r3.names), ((encL 3 encMem) r3.mems), ((encL 1 i64) r3.outs)]) (.head _) rfl rfl rfl rfl (Nat.le_of_ble_eq_true rfl) rfl rfl fun h O => ?_; ((conv=>whnf);repeat (first|apply Cs|apply Hs|apply Hx);conv=>whnf)
    refine ⟨_, resAggK rfl rfl (O.at (.head _)) rfl rfl (Nat.le_of_ble_eq_true rfl) rfl, ?_⟩; conv=>whnf
    exact ⟨(r3, r6), hm, O.ext, fun h2 F => VLe.tup (LLe.cons (VLe.refl _ _) (LLe.cons (VLe.refl _ _) (LLe.nil _)))⟩
def probecardlaw24_has_wp (p0 : (List Nat)) (p1 : (List Asg)) (K : Bool → Prop) : Prop :=
  joinW (α := Unit) (fun k1 => loopW (S := Nat) (fun v2 nx3 => ((ltN v2 p1.length) = true → ∃ x4, p1[v2]? = some x4 ∧ ∃ x5, p0[x4.net]? = some x5 ∧ ∃ x6, p1[v2]? = some x6 ∧ ((neN x5 x6.value) = true → K false) ∧ ((neN x5 x6.value) = false → v2 + 1 < 2 ^ 63 ∧ nx3 (v2 + 1))) ∧ ((ltN v2 p1.length) = false → k1 ())) 0) (fun _ => K true)
theorem probecardlaw24_has_walk {p0 : (List Nat)} {p1 : (List Asg)} {K : Bool → Prop} (hm : probecardlaw24_has_wp p0 p1 K) {h0 : Heap} (hB : HasB vars h0) : ∃ r, K r ∧ CallD Tryd.prog NG 17 ⟨[(encL 1 n8) p0, (encL 2 encAsg) p1]⟩ h0 (Value.bool r) h0 := by
  unfold probecardlaw24_has_wp at hm
  refine fnW hM Tryd.func17 rfl (hP _ _ rfl Tryd.func17) (Nat.le_of_ble_eq_true rfl) hB (enc := Value.bool) (fun r => PureV.flat rfl) fun O => ?_; conv=>whnf
  apply Cs;conv=>whnf
  apply Cs;((conv=>whnf);repeat (first|apply Hs|apply Hx);conv=>whnf)
  refine CodeS.joinWS hm (nn := 26) (σ := Unit × Unit) (fun s => s.1) (fun (_, _) h => Own vars h0 [] h ∧ True) (fun (_, _) => []) rfl (fun hm' => ?_) ?_
  ·replace hm := hm'
   apply Cs;((conv=>whnf);repeat (first|apply Cs|apply Hs|apply Hx);conv=>whnf)
   refine loopWK hM (by kernel_rfl) (nn := 26) (S := Nat) (σ := Nat × Unit) (fun s => s.1) (fun (v2, _) h => Own vars h0 [] h ∧ True) (fun (v2, _) => [(0, ((encL 1 n8) p0)), (1, ((encL 2 encAsg) p1)), (5, (i64 v2))]) rfl (0, ()) hm ⟨O, trivial⟩ ⟨VLe.refl _ _, VLe.refl _ _, VLe.refl _ _, trivial⟩ ?_
   clear hm; rintro ⟨v2, _⟩ nx3 base h hm ⟨O, _⟩
   ((conv=>whnf);repeat (first|apply Cs|apply Hs|apply Hx);conv=>whnf)
   refine lenM (s := 2) (enc := encAsg) (l := p1) rfl rfl ?_; ((conv=>whnf);repeat (first|apply Cs|apply Hs|apply Hx);conv=>whnf)
   refine ⟨_, rfl, fun hc => ?_, fun hc => ?_⟩
   ·replace hm := hm.1 hc
    apply Cs;((conv=>whnf);repeat (first|apply Cs|apply Hs|apply Hx);conv=>whnf)
    obtain ⟨x4, hx4, hm⟩ := hm
    refine flAtM (s := 2) (enc := encAsg) (j := v2) rfl rfl rfl rfl hx4 ?_; ((conv=>whnf);repeat (first|apply Hs|apply Hx);conv=>whnf)
    refine ⟨_, (rfl : aread _ _ _ _ = some _), ?_⟩; ((conv=>whnf);repeat (first|apply Hs|apply Hx);conv=>whnf)
    refine ⟨.inl rfl, ?_⟩; ((conv=>whnf);repeat (first|apply Hs|apply Hx);conv=>whnf)
    obtain ⟨x5, hx5, hm⟩ := hm
    refine flAtM (s := 1) (enc := n8) (j := x4.net) rfl rfl rfl rfl hx5 ?_; ((conv=>whnf);repeat (first|apply Hs|apply Hx);conv=>whnf)
    refine ⟨_, (rfl : aread _ _ _ _ = some _), ?_⟩; ((conv=>whnf);repeat (first|apply Hs|apply Hx);conv=>whnf)
    refine ⟨.inl rfl, ?_⟩; ((conv=>whnf);repeat (first|apply Hs|apply Hx);conv=>whnf)
    obtain ⟨x6, hx6, hm⟩ := hm
    refine flAtM (s := 2) (enc := encAsg) (j := v2) rfl rfl rfl rfl hx6 ?_; ((conv=>whnf);repeat (first|apply Hs|apply Hx);conv=>whnf)
    refine ⟨_, (rfl : aread _ _ _ _ = some _), ?_⟩; ((conv=>whnf);repeat (first|apply Hs|apply Hx);conv=>whnf)
    refine ⟨.inl rfl, ?_⟩; ((conv=>whnf);repeat (first|apply Cs|apply Hs|apply Hx);conv=>whnf)
    refine ⟨_, rfl, fun hc => ?_, fun hc => ?_⟩
    ·replace hm := hm.1 hc
     apply Cs;((conv=>whnf);repeat (first|apply Cs|apply Hs|apply Hx);conv=>whnf)
     exact ⟨false, hm, O.ext, fun h2 F => VLe.refl _ _⟩
    ·replace hm := hm.2 hc
     apply Cs;((conv=>whnf);repeat (first|apply Cs|apply Hs|apply Hx);conv=>whnf)
     refine ⟨_, addK (a := v2) (b := 1) rfl rfl hm.1, ?_⟩; ((conv=>whnf);repeat (first|apply Hs|apply Hx);conv=>whnf)
     replace hm := hm.2
     exact ⟨((v2 + 1), ()), hm, ⟨O, trivial⟩, VLe.refl _ _, VLe.refl _ _, VLe.refl _ _, trivial⟩
   ·replace hm := hm.2 hc
    apply Cs;((conv=>whnf);repeat (first|apply Cs|apply Hs|apply Hx);conv=>whnf)
    exact ⟨((), ()), hm, ⟨O, trivial⟩, trivial⟩
  ·clear hm; rintro ⟨_, _⟩ base h hm ⟨O, _⟩
   ((conv=>whnf);repeat (first|apply Cs|apply Hs|apply Hx);conv=>whnf)
   exact ⟨true, hm, O.ext, fun h2 F => VLe.refl _ _⟩
def probecardlaw24_ImpliesSound_wp (p0 : CData) (p1 : (List U2)) (p2 : Nat) (K : Bool → Prop) : Prop :=
  probecardlaw24_Small_wp p0 7 (fun r1 => ((ltN 6 p1.length) = true → law24_lives_wp  (fun r4 => K r4)) ∧ ((ltN 6 p1.length) = false → probecardlaw24_Given_wp r1.1.nodes.length p1 (fun r5 => implies_Close_wp r1.1 r5 (fun r6 => joinW (α := Bool) (fun k8 => ((neN r6.2.2 0) = true → k8 true) ∧ ((neN r6.2.2 0) = false → (r6.2.1 = true → ((neN r6.1.length r1.1.nodes.length) = true → k8 true) ∧ ((neN r6.1.length r1.1.nodes.length) = false → ((!r6.2.1) = true → k8 (ltN 0 r6.1.length)) ∧ ((!r6.2.1) = false → k8 false))) ∧ (r6.2.1 = false → ((!r6.2.1) = true → k8 (ltN 0 r6.1.length)) ∧ ((!r6.2.1) = false → k8 false)))) (fun v7 => (v7 = true → K false) ∧ (v7 = false → joinW (α := Unit) (fun k9 => loopW (S := Nat) (fun v10 nx11 => r1.2.length ≤ 16 ∧ ((ltN v10 (2 ^ r1.2.length)) = true → joinW (α := Unit) (fun k12 => probecardlaw24_Total_wp r1.1 v10 (fun r13 => probecardlaw24_has_wp r13 r5 (fun r14 => ((!r14) = true → k12 ()) ∧ ((!r14) = false → ((!r6.2.1) = true → K false) ∧ ((!r6.2.1) = false → loopW (S := Nat) (fun v15 nx16 => ((ltN v15 r13.length) = true → joinW (α := Bool) (fun k18 => ∃ x19, r6.1[v15]? = some x19 ∧ ((neN x19 2) = true → ∃ x20, r6.1[v15]? = some x20 ∧ ∃ x21, r13[v15]? = some x21 ∧ k18 (neN x20 x21)) ∧ ((neN x19 2) = false → k18 false)) (fun v17 => (v17 = true → K false) ∧ (v17 = false → v15 + 1 < 2 ^ 63 ∧ nx16 (v15 + 1)))) ∧ ((ltN v15 r13.length) = false → k12 ())) 0))))) (fun _ => v10 + 1 < 2 ^ 63 ∧ nx11 (v10 + 1))) ∧ ((ltN v10 (2 ^ r1.2.length)) = false → k9 ())) 0) (fun _ => p2 < 256 ∧ r1.2.length ≤ 16 ∧ 0 < (2 ^ r1.2.length) ∧ probecardlaw24_Total_wp r1.1 (p2 % (2 ^ r1.2.length)) (fun r22 => (([] : List Asg).length + r5.length) * 16 ≤ 2 ^ 47 ∧ joinW (α := (List Asg)) (fun k32 => loopW (S := ((List Asg) × Nat)) (fun (v35, v36) nx37 => ((ltN v36 r1.2.length) = true → ∃ x38, r1.2[v36]? = some x38 ∧ v36 ≤ 63 ∧ 0 < 2 ∧ (v35.length + ([(⟨x38, ((((p2 % (2 ^ r1.2.length)) / 2 ^ v36) % 2) % 256)⟩ : Asg)] : (List Asg)).length) * 16 ≤ 2 ^ 47 ∧ v36 + 1 < 2 ^ 63 ∧ nx37 ((v35 ++ ([(⟨x38, ((((p2 % (2 ^ r1.2.length)) / 2 ^ v36) % 2) % 256)⟩ : Asg)] : (List Asg))), (v36 + 1))) ∧ ((ltN v36 r1.2.length) = false → k32 v35)) ((([] : List Asg) ++ r5), 0)) (fun v31 => implies_Close_wp r1.1 v31 (fun r45 => joinW (α := Bool) (fun k47 => ((neN r45.2.2 0) = true → k47 true) ∧ ((neN r45.2.2 0) = false → probecardlaw24_has_wp r22 r5 (fun r48 => ((r45.2.1 != r48) = true → k47 true) ∧ ((r45.2.1 != r48) = false → (r45.2.1 = true → k47 (neN r45.1.length r22.length)) ∧ (r45.2.1 = false → k47 false))))) (fun v46 => (v46 = true → K false) ∧ (v46 = false → joinW (α := Unit) (fun k49 => loopW (S := Nat) (fun v50 nx51 => joinW (α := Bool) (fun k53 => ((ltN v50 r22.length) = true → k53 r45.2.1) ∧ ((ltN v50 r22.length) = false → k53 false)) (fun v52 => (v52 = true → ∃ x54, r45.1[v50]? = some x54 ∧ ∃ x55, r22[v50]? = some x55 ∧ ((neN x54 x55) = true → K false) ∧ ((neN x54 x55) = false → v50 + 1 < 2 ^ 63 ∧ nx51 (v50 + 1))) ∧ (v52 = false → k49 ()))) 0) (fun _ => law24_lives_wp  (fun r56 => K r56))))))))))))))
theorem probecardlaw24_ImpliesSound_walk {p0 : CData} {p1 : (List U2)} {p2 : Nat} {K : Bool → Prop} (hm : probecardlaw24_ImpliesSound_wp p0 p1 p2 K) {h0 : Heap} (hB : HasB vars h0) : ∃ r, K r ∧ CallD Tryd.prog NG 4 ⟨[encC p0, (encL 2 encU2) p1, n8 p2]⟩ h0 (Value.bool r) h0 := by
  unfold probecardlaw24_ImpliesSound_wp at hm
  refine fnW hM Tryd.func4 rfl (hP _ _ rfl Tryd.func4) (Nat.le_of_ble_eq_true rfl) hB (enc := Value.bool) (fun r => PureV.flat rfl) fun O => ?_; conv=>whnf
  apply Cs;((conv=>whnf);repeat (first|apply Cs|apply Hs|apply Hx);conv=>whnf)
  refine NewG.frz rfl ?_; ((conv=>whnf);repeat (first|apply Cs|apply Hs|apply Hx);conv=>whnf)
  refine ⟨_, (rfl : aread _ _ _ _ = some _), ?_⟩; ((conv=>whnf);repeat (first|apply Hs|apply Hx);conv=>whnf)
  obtain ⟨r1, hm, hcall⟩ := probecardlaw24_Small_walk hm O.has
  refine ⟨_, _, hcall, ?_⟩; ((conv=>whnf);repeat (first|apply Hs|apply Hx);conv=>whnf)
  refine O.new (anew_alloc (l := [(.slice none 0 0), (.slice none 0 0), (.slice none 0 0), (.slice none 0 0)]) rfl rfl rfl) fun g2 h O => ?_; ((conv=>whnf);repeat (first|apply Hs|apply Hx);conv=>whnf)
  refine O.store (n := 4) (cs' := [((encL 4 encNode) r1.1.nodes), ((encL 1 Value.string) r1.1.names), ((encL 3 encMem) r1.1.mems), ((encL 1 i64) r1.1.outs)]) (.head _) rfl rfl rfl rfl (Nat.le_of_ble_eq_true rfl) rfl rfl fun h O => ?_; ((conv=>whnf);repeat (first|apply Cs|apply Hs|apply Hx);conv=>whnf)
  refine lenM (s := 2) (enc := encU2) (l := p1) rfl rfl ?_; ((conv=>whnf);repeat (first|apply Cs|apply Hs|apply Hx);conv=>whnf)
  refine ⟨_, rfl, fun hc => ?_, fun hc => ?_⟩
  ·replace hm := hm.1 hc
   apply Cs;((conv=>whnf);repeat (first|apply Cs|apply Hs|apply Hx);conv=>whnf)
   obtain ⟨r4, hm, hcall⟩ := law24_lives_walk hm O.has
   refine ⟨_, _, hcall, ?_⟩; ((conv=>whnf);repeat (first|apply Cs|apply Hs|apply Hx);conv=>whnf)
   exact ⟨r4, hm, O.ext, fun h2 F => VLe.refl _ _⟩
  ·replace hm := hm.2 hc
   apply Cs;((conv=>whnf);repeat (first|apply Cs|apply Hs|apply Hx);conv=>whnf)
   refine ⟨_, loadK rfl (O.at (.head _)) rfl rfl, ?_⟩; ((conv=>whnf);repeat (first|apply Hs|apply Hx);conv=>whnf)
   refine lenM (s := 4) (enc := encNode) (l := r1.1.nodes) rfl rfl ?_; ((conv=>whnf);repeat (first|apply Hs|apply Hx);conv=>whnf)
   obtain ⟨r5, hm, hcall⟩ := probecardlaw24_Given_walk hm O.has
   refine ⟨_, _, hcall, ?_⟩; ((conv=>whnf);repeat (first|apply Cs|apply Hs|apply Hx);conv=>whnf)
   refine ⟨_, loadAggK rfl (O.at (.head _)) rfl rfl (Nat.le_of_ble_eq_true rfl) rfl, ?_⟩; ((conv=>whnf);repeat (first|apply Hs|apply Hx);conv=>whnf)
   obtain ⟨r6, hm, hcall⟩ := implies_Close_walk hm O.has
   refine ⟨_, _, hcall, ?_⟩; ((conv=>whnf);repeat (first|apply Hs|apply Hx);conv=>whnf)
   apply Cs;conv=>whnf
   refine CodeS.joinWS hm (nn := 181) (σ := Bool × Unit) (fun s => s.1) (fun (v7, _) h => Own vars h0 [((some g2), .cells [((encL 4 encNode) r1.1.nodes), ((encL 1 Value.string) r1.1.names), ((encL 3 encMem) r1.1.mems), ((encL 1 i64) r1.1.outs)] false)] h ∧ True) (fun (v7, _) => [(2, (n8 p2)), (7, (.pointer (some ⟨g2, 0, none⟩))), (8, ((encL 1 i64) r1.2)), (9, ((encL 2 encAsg) r5)), (10, ((encL 1 n8) r6.1)), (11, (.bool r6.2.1)), (66, (.bool v7))]) rfl (fun hm' => ?_) ?_
   ·replace hm := hm'
    apply Cs;((conv=>whnf);repeat (first|apply Cs|apply Hs|apply Hx);conv=>whnf)
    refine ⟨_, rfl, fun hc => ?_, fun hc => ?_⟩
    ·replace hm := hm.1 hc; ((conv=>whnf);repeat (first|apply Hs|apply Hx);conv=>whnf)
     refine ⟨true, rfl, fun _ => ?_, (fun hc => nomatch hc)⟩; ((conv=>whnf);repeat (first|apply Hs|apply Hx);conv=>whnf)
     exact ⟨(true, ()), hm, ⟨O, trivial⟩, VLe.refl _ _, VLe.refl _ _, VLe.refl _ _, VLe.refl _ _, VLe.refl _ _, VLe.refl _ _, VLe.refl _ _, trivial⟩
    ·replace hm := hm.2 hc; ((conv=>whnf);repeat (first|apply Hs|apply Hx);conv=>whnf)
     refine ⟨_, rfl, fun hc => ?_, fun hc => ?_⟩
     ·replace hm := hm.1 hc; ((conv=>whnf);repeat (first|apply Hs|apply Hx);conv=>whnf)
      refine lenM (s := 1) (enc := n8) (l := r6.1) rfl rfl ?_; ((conv=>whnf);repeat (first|apply Hs|apply Hx);conv=>whnf)
      refine ⟨_, loadK rfl (O.at (.head _)) rfl rfl, ?_⟩; ((conv=>whnf);repeat (first|apply Hs|apply Hx);conv=>whnf)
      refine lenM (s := 4) (enc := encNode) (l := r1.1.nodes) rfl rfl ?_; ((conv=>whnf);repeat (first|apply Hs|apply Hx);conv=>whnf)
      refine ⟨_, rfl, fun hc => ?_, fun hc => ?_⟩
      ·replace hm := hm.1 hc; ((conv=>whnf);repeat (first|apply Hs|apply Hx);conv=>whnf)
       exact ⟨(true, ()), hm, ⟨O, trivial⟩, VLe.refl _ _, VLe.refl _ _, VLe.refl _ _, VLe.refl _ _, VLe.refl _ _, VLe.refl _ _, VLe.refl _ _, trivial⟩
      ·replace hm := hm.2 hc; ((conv=>whnf);repeat (first|apply Hs|apply Hx);conv=>whnf)
       refine ⟨_, rfl, fun hc => ?_, fun hc => ?_⟩
       ·replace hm := hm.1 hc; ((conv=>whnf);repeat (first|apply Hs|apply Hx);conv=>whnf)
        refine lenM (s := 1) (enc := n8) (l := r6.1) rfl rfl ?_; ((conv=>whnf);repeat (first|apply Hs|apply Hx);conv=>whnf)
        exact ⟨((ltN 0 r6.1.length), ()), hm, ⟨O, trivial⟩, VLe.refl _ _, VLe.refl _ _, VLe.refl _ _, VLe.refl _ _, VLe.refl _ _, VLe.refl _ _, VLe.refl _ _, trivial⟩
       ·replace hm := hm.2 hc; ((conv=>whnf);repeat (first|apply Hs|apply Hx);conv=>whnf)
        exact ⟨(false, ()), hm, ⟨O, trivial⟩, VLe.refl _ _, VLe.refl _ _, VLe.refl _ _, VLe.refl _ _, VLe.refl _ _, VLe.refl _ _, VLe.refl _ _, trivial⟩
     ·replace hm := hm.2 hc; ((conv=>whnf);repeat (first|apply Hs|apply Hx);conv=>whnf)
      refine ⟨false, rfl, (fun hc => nomatch hc), fun _ => ?_⟩; ((conv=>whnf);repeat (first|apply Hs|apply Hx);conv=>whnf)
      refine ⟨_, rfl, fun hc => ?_, fun hc => ?_⟩
      ·replace hm := hm.1 hc; ((conv=>whnf);repeat (first|apply Hs|apply Hx);conv=>whnf)
       refine lenM (s := 1) (enc := n8) (l := r6.1) rfl rfl ?_; ((conv=>whnf);repeat (first|apply Hs|apply Hx);conv=>whnf)
       exact ⟨((ltN 0 r6.1.length), ()), hm, ⟨O, trivial⟩, VLe.refl _ _, VLe.refl _ _, VLe.refl _ _, VLe.refl _ _, VLe.refl _ _, VLe.refl _ _, VLe.refl _ _, trivial⟩
      ·replace hm := hm.2 hc; ((conv=>whnf);repeat (first|apply Hs|apply Hx);conv=>whnf)
       exact ⟨(false, ()), hm, ⟨O, trivial⟩, VLe.refl _ _, VLe.refl _ _, VLe.refl _ _, VLe.refl _ _, VLe.refl _ _, VLe.refl _ _, VLe.refl _ _, trivial⟩
   ·clear hm; rintro ⟨v7, _⟩ base h hm ⟨O, _⟩
    ((conv=>whnf);repeat (first|apply Cs|apply Hs|apply Hx);conv=>whnf)
    refine ⟨_, rfl, fun hc => ?_, fun hc => ?_⟩
    ·replace hm := hm.1 hc
     apply Cs;((conv=>whnf);repeat (first|apply Cs|apply Hs|apply Hx);conv=>whnf)
     exact ⟨false, hm, O.ext, fun h2 F => VLe.refl _ _⟩
    ·replace hm := hm.2 hc
     apply Cs;conv=>whnf
     refine CodeS.joinWS hm (nn := 181) (σ := Unit × Unit) (fun s => s.1) (fun (_, _) h => Own vars h0 [((some g2), .cells [((encL 4 encNode) r1.1.nodes), ((encL 1 Value.string) r1.1.names), ((encL 3 encMem) r1.1.mems), ((encL 1 i64) r1.1.outs)] false)] h ∧ True) (fun (_, _) => [(2, (n8 p2)), (7, (.pointer (some ⟨g2, 0, none⟩))), (8, ((encL 1 i64) r1.2)), (9, ((encL 2 encAsg) r5))]) rfl (fun hm' => ?_) ?_
     ·replace hm := hm'
      apply Cs;((conv=>whnf);repeat (first|apply Cs|apply Hs|apply Hx);conv=>whnf)
      refine loopWK hM (by kernel_rfl) (nn := 181) (S := Nat) (σ := Nat × Unit) (fun s => s.1) (fun (v10, _) h => Own vars h0 [((some g2), .cells [((encL 4 encNode) r1.1.nodes), ((encL 1 Value.string) r1.1.names), ((encL 3 encMem) r1.1.mems), ((encL 1 i64) r1.1.outs)] false)] h ∧ True) (fun (v10, _) => [(2, (n8 p2)), (7, (.pointer (some ⟨g2, 0, none⟩))), (8, ((encL 1 i64) r1.2)), (9, ((encL 2 encAsg) r5)), (10, ((encL 1 n8) r6.1)), (11, (.bool r6.2.1)), (13, (i64 v10))]) rfl (0, ()) hm ⟨O, trivial⟩ ⟨VLe.refl _ _, VLe.refl _ _, VLe.refl _ _, VLe.refl _ _, VLe.refl _ _, VLe.refl _ _, VLe.refl _ _, trivial⟩ ?_
      clear hm; rintro ⟨v10, _⟩ nx11 base h hm ⟨O, _⟩
      ((conv=>whnf);repeat (first|apply Cs|apply Hs|apply Hx);conv=>whnf)
      refine lenM (s := 1) (enc := i64) (l := r1.2) rfl rfl ?_; ((conv=>whnf);repeat (first|apply Hs|apply Hx);conv=>whnf)
      refine ⟨_, shiftK (.inl rfl) rfl rfl (shl_small r1.2.length hm.1), ?_⟩; ((conv=>whnf);repeat (first|apply Cs|apply Hs|apply Hx);conv=>whnf)
      replace hm := hm.2
      refine ⟨_, rfl, fun hc => ?_, fun hc => ?_⟩
      ·replace hm := hm.1 hc
       apply Cs;conv=>whnf
       refine CodeS.joinWS hm (nn := 181) (σ := Unit × Unit) (fun s => s.1) (fun (_, _) h => Own vars h0 [((some g2), .cells [((encL 4 encNode) r1.1.nodes), ((encL 1 Value.string) r1.1.names), ((encL 3 encMem) r1.1.mems), ((encL 1 i64) r1.1.outs)] false)] h ∧ True) (fun (_, _) => [(2, (n8 p2)), (7, (.pointer (some ⟨g2, 0, none⟩))), (8, ((encL 1 i64) r1.2)), (9, ((encL 2 encAsg) r5)), (10, ((encL 1 n8) r6.1)), (11, (.bool r6.2.1)), (13, (i64 v10))]) rfl (fun hm' => ?_) ?_
       ·replace hm := hm'
        apply Cs;((conv=>whnf);repeat (first|apply Cs|apply Hs|apply Hx);conv=>whnf)
        refine ⟨_, loadAggK rfl (O.at (.head _)) rfl rfl (Nat.le_of_ble_eq_true rfl) rfl, ?_⟩; ((conv=>whnf);repeat (first|apply Hs|apply Hx);conv=>whnf)
        obtain ⟨r13, hm, hcall⟩ := probecardlaw24_Total_walk hm O.has
        refine ⟨_, _, hcall, ?_⟩; ((conv=>whnf);repeat (first|apply Cs|apply Hs|apply Hx);conv=>whnf)
        obtain ⟨r14, hm, hcall⟩ := probecardlaw24_has_walk hm O.has
        refine ⟨_, _, hcall, ?_⟩; ((conv=>whnf);repeat (first|apply Cs|apply Hs|apply Hx);conv=>whnf)
        refine ⟨_, rfl, fun hc => ?_, fun hc => ?_⟩
        ·replace hm := hm.1 hc
         apply Cs;((conv=>whnf);repeat (first|apply Cs|apply Hs|apply Hx);conv=>whnf)
         exact ⟨((), ()), hm, ⟨O, trivial⟩, VLe.refl _ _, VLe.refl _ _, VLe.refl _ _, VLe.refl _ _, VLe.refl _ _, VLe.refl _ _, VLe.refl _ _, trivial⟩
        ·replace hm := hm.2 hc
         apply Cs;((conv=>whnf);repeat (first|apply Cs|apply Hs|apply Hx);conv=>whnf)
         refine ⟨_, rfl, fun hc => ?_, fun hc => ?_⟩
         ·replace hm := hm.1 hc
          apply Cs;((conv=>whnf);repeat (first|apply Cs|apply Hs|apply Hx);conv=>whnf)
          exact ⟨false, hm, O.ext, fun h2 F => VLe.refl _ _⟩
         ·replace hm := hm.2 hc
          apply Cs;((conv=>whnf);repeat (first|apply Cs|apply Hs|apply Hx);conv=>whnf)
          refine loopWK hM (by kernel_rfl) (nn := 181) (S := Nat) (σ := Nat × Unit) (fun s => s.1) (fun (v15, _) h => Own vars h0 [((some g2), .cells [((encL 4 encNode) r1.1.nodes), ((encL 1 Value.string) r1.1.names), ((encL 3 encMem) r1.1.mems), ((encL 1 i64) r1.1.outs)] false)] h ∧ True) (fun (v15, _) => [(2, (n8 p2)), (7, (.pointer (some ⟨g2, 0, none⟩))), (8, ((encL 1 i64) r1.2)), (9, ((encL 2 encAsg) r5)), (10, ((encL 1 n8) r6.1)), (11, (.bool r6.2.1)), (13, (i64 v10)), (14, ((encL 1 n8) r13)), (15, (i64 v15))]) rfl (0, ()) hm ⟨O, trivial⟩ ⟨VLe.refl _ _, VLe.refl _ _, VLe.refl _ _, VLe.refl _ _, VLe.refl _ _, VLe.refl _ _, VLe.refl _ _, VLe.refl _ _, VLe.refl _ _, trivial⟩ ?_
          clear hm; rintro ⟨v15, _⟩ nx16 base h hm ⟨O, _⟩
          ((conv=>whnf);repeat (first|apply Cs|apply Hs|apply Hx);conv=>whnf)
          refine lenM (s := 1) (enc := n8) (l := r13) rfl rfl ?_; ((conv=>whnf);repeat (first|apply Cs|apply Hs|apply Hx);conv=>whnf)
          refine ⟨_, rfl, fun hc => ?_, fun hc => ?_⟩
          ·replace hm := hm.1 hc
           apply Cs;conv=>whnf
           apply Cs;conv=>whnf
           apply Cs;conv=>whnf
           refine CodeS.joinWS hm (nn := 181) (σ := Bool × Unit) (fun s => s.1) (fun (v17, _) h => Own vars h0 [((some g2), .cells [((encL 4 encNode) r1.1.nodes), ((encL 1 Value.string) r1.1.names), ((encL 3 encMem) r1.1.mems), ((encL 1 i64) r1.1.outs)] false)] h ∧ True) (fun (v17, _) => [(2, (n8 p2)), (7, (.pointer (some ⟨g2, 0, none⟩))), (8, ((encL 1 i64) r1.2)), (9, ((encL 2 encAsg) r5)), (10, ((encL 1 n8) r6.1)), (11, (.bool r6.2.1)), (13, (i64 v10)), (14, ((encL 1 n8) r13)), (15, (i64 v15)), (104, (.bool v17))]) rfl (fun hm' => ?_) ?_
           ·replace hm := hm'
            apply Cs;((conv=>whnf);repeat (first|apply Cs|apply Hs|apply Hx);conv=>whnf)
            obtain ⟨x19, hx19, hm⟩ := hm
            refine flAtM (s := 1) (enc := n8) (j := v15) rfl rfl rfl rfl hx19 ?_; ((conv=>whnf);repeat (first|apply Hs|apply Hx);conv=>whnf)
            refine ⟨_, (rfl : aread _ _ _ _ = some _), ?_⟩; ((conv=>whnf);repeat (first|apply Hs|apply Hx);conv=>whnf)
            refine ⟨.inl rfl, ?_⟩; ((conv=>whnf);repeat (first|apply Hs|apply Hx);conv=>whnf)
            refine ⟨_, rfl, fun hc => ?_, fun hc => ?_⟩
            ·replace hm := hm.1 hc; ((conv=>whnf);repeat (first|apply Hs|apply Hx);conv=>whnf)
             obtain ⟨x20, hx20, hm⟩ := hm
             refine flAtM (s := 1) (enc := n8) (j := v15) rfl rfl rfl rfl hx20 ?_; ((conv=>whnf);repeat (first|apply Hs|apply Hx);conv=>whnf)
             refine ⟨_, (rfl : aread _ _ _ _ = some _), ?_⟩; ((conv=>whnf);repeat (first|apply Hs|apply Hx);conv=>whnf)
             refine ⟨.inl rfl, ?_⟩; ((conv=>whnf);repeat (first|apply Hs|apply Hx);conv=>whnf)
             obtain ⟨x21, hx21, hm⟩ := hm
             refine flAtM (s := 1) (enc := n8) (j := v15) rfl rfl rfl rfl hx21 ?_; ((conv=>whnf);repeat (first|apply Hs|apply Hx);conv=>whnf)
             refine ⟨_, (rfl : aread _ _ _ _ = some _), ?_⟩; ((conv=>whnf);repeat (first|apply Hs|apply Hx);conv=>whnf)
             refine ⟨.inl rfl, ?_⟩; ((conv=>whnf);repeat (first|apply Hs|apply Hx);conv=>whnf)
             exact ⟨((neN x20 x21), ()), hm, ⟨O, trivial⟩, VLe.refl _ _, VLe.refl _ _, VLe.refl _ _, VLe.refl _ _, VLe.refl _ _, VLe.refl _ _, VLe.refl _ _, VLe.refl _ _, VLe.refl _ _, VLe.refl _ _, trivial⟩
            ·replace hm := hm.2 hc; ((conv=>whnf);repeat (first|apply Hs|apply Hx);conv=>whnf)
             exact ⟨(false, ()), hm, ⟨O, trivial⟩, VLe.refl _ _, VLe.refl _ _, VLe.refl _ _, VLe.refl _ _, VLe.refl _ _, VLe.refl _ _, VLe.refl _ _, VLe.refl _ _, VLe.refl _ _, VLe.refl _ _, trivial⟩
           ·clear hm; rintro ⟨v17, _⟩ base h hm ⟨O, _⟩
            ((conv=>whnf);repeat (first|apply Cs|apply Hs|apply Hx);conv=>whnf)
            refine ⟨_, rfl, fun hc => ?_, fun hc => ?_⟩
            ·replace hm := hm.1 hc
             apply Cs;((conv=>whnf);repeat (first|apply Cs|apply Hs|apply Hx);conv=>whnf)
             exact ⟨false, hm, O.ext, fun h2 F => VLe.refl _ _⟩
            ·replace hm := hm.2 hc
             apply Cs;((conv=>whnf);repeat (first|apply Cs|apply Hs|apply Hx);conv=>whnf)
             refine ⟨_, addK (a := v15) (b := 1) rfl rfl hm.1, ?_⟩; ((conv=>whnf);repeat (first|apply Hs|apply Hx);conv=>whnf)
             replace hm := hm.2
             exact ⟨((v15 + 1), ()), hm, ⟨O, trivial⟩, VLe.refl _ _, VLe.refl _ _, VLe.refl _ _, VLe.refl _ _, VLe.refl _ _, VLe.refl _ _, VLe.refl _ _, VLe.refl _ _, VLe.refl _ _, trivial⟩
          ·replace hm := hm.2 hc
           apply Cs;((conv=>whnf);repeat (first|apply Cs|apply Hs|apply Hx);conv=>whnf)
           exact ⟨((), ()), hm, ⟨O, trivial⟩, VLe.refl _ _, VLe.refl _ _, VLe.refl _ _, VLe.refl _ _, VLe.refl _ _, VLe.refl _ _, VLe.refl _ _, trivial⟩
       ·clear hm; rintro ⟨_, _⟩ base h hm ⟨O, _⟩
        ((conv=>whnf);repeat (first|apply Cs|apply Hs|apply Hx);conv=>whnf)
        refine ⟨_, addK (a := v10) (b := 1) rfl rfl hm.1, ?_⟩; ((conv=>whnf);repeat (first|apply Hs|apply Hx);conv=>whnf)
        replace hm := hm.2
        exact ⟨((v10 + 1), ()), hm, ⟨O, trivial⟩, VLe.refl _ _, VLe.refl _ _, VLe.refl _ _, VLe.refl _ _, VLe.refl _ _, VLe.refl _ _, VLe.refl _ _, trivial⟩
      ·replace hm := hm.2 hc
       apply Cs;((conv=>whnf);repeat (first|apply Cs|apply Hs|apply Hx);conv=>whnf)
       exact ⟨((), ()), hm, ⟨O, trivial⟩, VLe.refl _ _, VLe.refl _ _, VLe.refl _ _, VLe.refl _ _, trivial⟩
     ·clear hm; rintro ⟨_, _⟩ base h hm ⟨O, _⟩
      ((conv=>whnf);repeat (first|apply Cs|apply Hs|apply Hx);conv=>whnf)
      refine ⟨_, convIntK (a := Int.ofNat p2) rfl rfl rfl (wrapI64 (Nat.lt_of_lt_of_le hm.1 (by decide))), ?_⟩; ((conv=>whnf);repeat (first|apply Hs|apply Hx);conv=>whnf)
      replace hm := hm.2
      refine lenM (s := 1) (enc := i64) (l := r1.2) rfl rfl ?_; ((conv=>whnf);repeat (first|apply Hs|apply Hx);conv=>whnf)
      refine ⟨_, shiftK (.inl rfl) rfl rfl (shl_small r1.2.length hm.1), ?_⟩; ((conv=>whnf);repeat (first|apply Hs|apply Hx);conv=>whnf)
      replace hm := hm.2
      refine ⟨_, remK (a := p2) (b := (2 ^ r1.2.length)) rfl rfl hm.1, ?_⟩; ((conv=>whnf);repeat (first|apply Cs|apply Hs|apply Hx);conv=>whnf)
      replace hm := hm.2
      refine ⟨_, loadAggK rfl (O.at (.head _)) rfl rfl (Nat.le_of_ble_eq_true rfl) rfl, ?_⟩; ((conv=>whnf);repeat (first|apply Hs|apply Hx);conv=>whnf)
      obtain ⟨r22, hm, hcall⟩ := probecardlaw24_Total_walk hm O.has
      refine ⟨_, _, hcall, ?_⟩; ((conv=>whnf);repeat (first|apply Cs|apply Hs|apply Hx);conv=>whnf)
      refine O.buildE rfl rfl rfl fun g23 h O => ?_; ((conv=>whnf);repeat (first|apply Hs|apply Hx);conv=>whnf)
      refine O.appendS (enc := encAsg) (l := ([] : List Asg)) (new := r5) (s := 2) (b := 16) (.head _) rfl rfl rfl rfl rfl rfl rfl rfl (YOk.fl rfl) (fun _ => rfl) (fun _ => rfl) (by decide) hm.1 fun g27 a28 h O => ?_; ((conv=>whnf);repeat (first|apply Hs|apply Hx);conv=>whnf)
      replace hm := hm.2
      refine CodeS.joinWS hm (nn := 181) (σ := (List Asg) × (Nat × Bool)) (fun s => s.1) (fun (v31, (a29, a30)) h => Own vars h0 [((some g2), .cells [((encL 4 encNode) r1.1.nodes), ((encL 1 Value.string) r1.1.names), ((encL 3 encMem) r1.1.mems), ((encL 1 i64) r1.1.outs)] false), ((some a29), .cells (flatC (v31.map encAsg)) false)] h ∧ True) (fun (v31, (a29, a30)) => [(7, (.pointer (some ⟨g2, 0, none⟩))), (9, ((encL 2 encAsg) r5)), (17, ((encL 1 n8) r22)), (18, (growS 2 a30 a29 (v31.map encAsg)))]) rfl (fun hm' => ?_) ?_
      ·replace hm := hm'
       apply Cs;((conv=>whnf);repeat (first|apply Cs|apply Hs|apply Hx);conv=>whnf)
       refine loopWK hM (by kernel_rfl) (nn := 181) (S := ((List Asg) × Nat)) (σ := ((List Asg) × Nat) × (Nat × Bool)) (fun s => s.1) (fun ((v35, v36), (a33, a34)) h => Own vars h0 [((some g2), .cells [((encL 4 encNode) r1.1.nodes), ((encL 1 Value.string) r1.1.names), ((encL 3 encMem) r1.1.mems), ((encL 1 i64) r1.1.outs)] false), ((some a33), .cells (flatC (v35.map encAsg)) false)] h ∧ True) (fun ((v35, v36), (a33, a34)) => [(7, (.pointer (some ⟨g2, 0, none⟩))), (8, ((encL 1 i64) r1.2)), (9, ((encL 2 encAsg) r5)), (16, (i64 (p2 % (2 ^ r1.2.length)))), (17, ((encL 1 n8) r22)), (18, (growS 2 a34 a33 (v35.map encAsg))), (19, (i64 v36))]) rfl (((([] : List Asg) ++ r5), 0), (g27, a28)) hm ⟨(O.sel [1, 0] (by decide)), trivial⟩ ⟨VLe.refl _ _, VLe.refl _ _, VLe.refl _ _, VLe.refl _ _, VLe.refl _ _, VLe.refl _ _, VLe.refl _ _, trivial⟩ ?_
       clear hm; rintro ⟨⟨v35, v36⟩, ⟨a33, a34⟩⟩ nx37 base h hm ⟨O, _⟩
       ((conv=>whnf);repeat (first|apply Cs|apply Hs|apply Hx);conv=>whnf)
       refine lenM (s := 1) (enc := i64) (l := r1.2) rfl rfl ?_; ((conv=>whnf);repeat (first|apply Cs|apply Hs|apply Hx);conv=>whnf)
       refine ⟨_, rfl, fun hc => ?_, fun hc => ?_⟩
       ·replace hm := hm.1 hc
        apply Cs;((conv=>whnf);repeat (first|apply Cs|apply Hs|apply Hx);conv=>whnf)
        obtain ⟨x38, hx38, hm⟩ := hm
        refine flAtM (s := 1) (enc := i64) (j := v36) rfl rfl rfl rfl hx38 ?_; ((conv=>whnf);repeat (first|apply Hs|apply Hx);conv=>whnf)
        refine ⟨_, (rfl : aread _ _ _ _ = some _), ?_⟩; ((conv=>whnf);repeat (first|apply Hs|apply Hx);conv=>whnf)
        refine ⟨.inl rfl, ?_⟩; ((conv=>whnf);repeat (first|apply Hs|apply Hx);conv=>whnf)
        refine ⟨_, shiftK (.inr rfl) rfl rfl (shr_small (p2 % (2 ^ r1.2.length)) v36 hm.1), ?_⟩; ((conv=>whnf);repeat (first|apply Hs|apply Hx);conv=>whnf)
        replace hm := hm.2
        refine ⟨_, remK (a := ((p2 % (2 ^ r1.2.length)) / 2 ^ v36)) (b := 2) rfl rfl hm.1, ?_⟩; ((conv=>whnf);repeat (first|apply Hs|apply Hx);conv=>whnf)
        replace hm := hm.2
        refine ⟨_, convWrapK (a := Int.ofNat (((p2 % (2 ^ r1.2.length)) / 2 ^ v36) % 2)) (b := Int.ofNat ((((p2 % (2 ^ r1.2.length)) / 2 ^ v36) % 2) % 256)) rfl rfl rfl rfl, ?_⟩; ((conv=>whnf);repeat (first|apply Hs|apply Hx);conv=>whnf)
        refine ⟨.inl rfl, ?_⟩; ((conv=>whnf);repeat (first|apply Hs|apply Hx);conv=>whnf)
        refine O.buildLX (l := ([(⟨x38, ((((p2 % (2 ^ r1.2.length)) / 2 ^ v36) % 2) % 256)⟩ : Asg)] : (List Asg))) (enc := encAsg) (s := 2) (z := (.agg ⟨[(i64 0), (n8 0)]⟩)) rfl rfl (by kernel_rfl) (by kernel_rfl) rfl rfl rfl rfl (fun _ => rfl) fun g39 h O => ?_; ((conv=>whnf);repeat (first|apply Hs|apply Hx);conv=>whnf)
        refine O.appendS (enc := encAsg) (l := v35) (new := ([(⟨x38, ((((p2 % (2 ^ r1.2.length)) / 2 ^ v36) % 2) % 256)⟩ : Asg)] : (List Asg))) (s := 2) (b := 16) (.tail _ (.tail _ (.head _))) rfl rfl rfl rfl rfl rfl rfl rfl (YOk.own (O.at (.head _)) rfl (fun _ => rfl) rfl) (fun _ => rfl) (fun _ => rfl) (by decide) hm.1 fun g43 a44 h O => ?_; ((conv=>whnf);repeat (first|apply Hs|apply Hx);conv=>whnf)
        refine ⟨.inl rfl, ?_⟩; ((conv=>whnf);repeat (first|apply Hs|apply Hx);conv=>whnf)
        replace hm := hm.2
        apply Cs;((conv=>whnf);repeat (first|apply Cs|apply Hs|apply Hx);conv=>whnf)
        refine ⟨_, addK (a := v36) (b := 1) rfl rfl hm.1, ?_⟩; ((conv=>whnf);repeat (first|apply Hs|apply Hx);conv=>whnf)
        replace hm := hm.2
        exact ⟨(((v35 ++ ([(⟨x38, ((((p2 % (2 ^ r1.2.length)) / 2 ^ v36) % 2) % 256)⟩ : Asg)] : (List Asg))), (v36 + 1)), (g43, a44)), hm, ⟨(O.sel [1, 2] (by decide)), trivial⟩, VLe.refl _ _, VLe.refl _ _, VLe.refl _ _, VLe.refl _ _, VLe.refl _ _, VLe.refl _ _, VLe.refl _ _, trivial⟩
       ·replace hm := hm.2 hc
        apply Cs;((conv=>whnf);repeat (first|apply Cs|apply Hs|apply Hx);conv=>whnf)
        exact ⟨(v35, (a33, a34)), hm, ⟨O, trivial⟩, VLe.refl _ _, VLe.refl _ _, VLe.refl _ _, VLe.refl _ _, trivial⟩
      ·clear hm; rintro ⟨v31, ⟨a29, a30⟩⟩ base h hm ⟨O, _⟩
       ((conv=>whnf);repeat (first|apply Cs|apply Hs|apply Hx);conv=>whnf)
       refine ⟨_, loadAggK rfl (O.at (.head _)) rfl rfl (Nat.le_of_ble_eq_true rfl) rfl, ?_⟩; ((conv=>whnf);repeat (first|apply Hs|apply Hx);conv=>whnf)
       refine O.useL (fun _ hb => implies_Close_walk hm hb) (.tail _ (.head _)) (List.length_map ..) (fun _ => rfl) (i := 1) rfl (by kernel_rfl) (fun h2 q => (LLe.cons (VLe.refl _ _) (LLe.cons (q) (LLe.nil _)))) (fun r45 h hm' O => ?_); replace hm := hm'; ((conv=>whnf);repeat (first|apply Hs|apply Hx);conv=>whnf)
       apply Cs;conv=>whnf
       refine CodeS.joinWS hm (nn := 181) (σ := Bool × Unit) (fun s => s.1) (fun (v46, _) h => Own vars h0 [] h ∧ True) (fun (v46, _) => [(17, ((encL 1 n8) r22)), (20, ((encL 1 n8) r45.1)), (21, (.bool r45.2.1)), (161, (.bool v46))]) rfl (fun hm' => ?_) ?_
       ·replace hm := hm'
        apply Cs;((conv=>whnf);repeat (first|apply Cs|apply Hs|apply Hx);conv=>whnf)
        refine ⟨_, rfl, fun hc => ?_, fun hc => ?_⟩
        ·replace hm := hm.1 hc; ((conv=>whnf);repeat (first|apply Hs|apply Hx);conv=>whnf)
         refine ⟨true, rfl, fun _ => ?_, (fun hc => nomatch hc)⟩; ((conv=>whnf);repeat (first|apply Hs|apply Hx);conv=>whnf)
         exact ⟨(true, ()), hm, ⟨(O.sel [] (by decide)), trivial⟩, VLe.refl _ _, VLe.refl _ _, VLe.refl _ _, VLe.refl _ _, trivial⟩
        ·replace hm := hm.2 hc; ((conv=>whnf);repeat (first|apply Hs|apply Hx);conv=>whnf)
         obtain ⟨r48, hm, hcall⟩ := probecardlaw24_has_walk hm O.has
         refine ⟨_, _, hcall, ?_⟩; ((conv=>whnf);repeat (first|apply Hs|apply Hx);conv=>whnf)
         refine ⟨_, rfl, fun hc => ?_, fun hc => ?_⟩
         ·replace hm := hm.1 hc; ((conv=>whnf);repeat (first|apply Hs|apply Hx);conv=>whnf)
          exact ⟨(true, ()), hm, ⟨(O.sel [] (by decide)), trivial⟩, VLe.refl _ _, VLe.refl _ _, VLe.refl _ _, VLe.refl _ _, trivial⟩
         ·replace hm := hm.2 hc; ((conv=>whnf);repeat (first|apply Hs|apply Hx);conv=>whnf)
          refine ⟨_, rfl, fun hc => ?_, fun hc => ?_⟩
          ·replace hm := hm.1 hc; ((conv=>whnf);repeat (first|apply Hs|apply Hx);conv=>whnf)
           refine lenM (s := 1) (enc := n8) (l := r45.1) rfl rfl ?_; ((conv=>whnf);repeat (first|apply Hs|apply Hx);conv=>whnf)
           refine lenM (s := 1) (enc := n8) (l := r22) rfl rfl ?_; ((conv=>whnf);repeat (first|apply Hs|apply Hx);conv=>whnf)
           exact ⟨((neN r45.1.length r22.length), ()), hm, ⟨(O.sel [] (by decide)), trivial⟩, VLe.refl _ _, VLe.refl _ _, VLe.refl _ _, VLe.refl _ _, trivial⟩
          ·replace hm := hm.2 hc; ((conv=>whnf);repeat (first|apply Hs|apply Hx);conv=>whnf)
           exact ⟨(false, ()), hm, ⟨(O.sel [] (by decide)), trivial⟩, VLe.refl _ _, VLe.refl _ _, VLe.refl _ _, VLe.refl _ _, trivial⟩
       ·clear hm; rintro ⟨v46, _⟩ base h hm ⟨O, _⟩
        ((conv=>whnf);repeat (first|apply Cs|apply Hs|apply Hx);conv=>whnf)
        refine ⟨_, rfl, fun hc => ?_, fun hc => ?_⟩
        ·replace hm := hm.1 hc
         apply Cs;((conv=>whnf);repeat (first|apply Cs|apply Hs|apply Hx);conv=>whnf)
         exact ⟨false, hm, O.ext, fun h2 F => VLe.refl _ _⟩
        ·replace hm := hm.2 hc
         apply Cs;conv=>whnf
         refine CodeS.joinWS hm (nn := 181) (σ := Unit × Unit) (fun s => s.1) (fun (_, _) h => Own vars h0 [] h ∧ True) (fun (_, _) => []) rfl (fun hm' => ?_) ?_
         ·replace hm := hm'
          apply Cs;((conv=>whnf);repeat (first|apply Cs|apply Hs|apply Hx);conv=>whnf)
          refine loopWK hM (by kernel_rfl) (nn := 181) (S := Nat) (σ := Nat × Unit) (fun s => s.1) (fun (v50, _) h => Own vars h0 [] h ∧ True) (fun (v50, _) => [(17, ((encL 1 n8) r22)), (20, ((encL 1 n8) r45.1)), (21, (.bool r45.2.1)), (23, (i64 v50))]) rfl (0, ()) hm ⟨O, trivial⟩ ⟨VLe.refl _ _, VLe.refl _ _, VLe.refl _ _, VLe.refl _ _, trivial⟩ ?_
          clear hm; rintro ⟨v50, _⟩ nx51 base h hm ⟨O, _⟩
          conv=>whnf
          apply Cs;conv=>whnf
          refine CodeS.joinWS hm (nn := 181) (σ := Bool × Unit) (fun s => s.1) (fun (v52, _) h => Own vars h0 [] h ∧ True) (fun (v52, _) => [(17, ((encL 1 n8) r22)), (20, ((encL 1 n8) r45.1)), (21, (.bool r45.2.1)), (23, (i64 v50)), (168, (.bool v52))]) rfl (fun hm' => ?_) ?_
          ·replace hm := hm'
           apply Cs;((conv=>whnf);repeat (first|apply Cs|apply Hs|apply Hx);conv=>whnf)
           refine lenM (s := 1) (enc := n8) (l := r22) rfl rfl ?_; ((conv=>whnf);repeat (first|apply Hs|apply Hx);conv=>whnf)
           refine ⟨_, rfl, fun hc => ?_, fun hc => ?_⟩
           ·replace hm := hm.1 hc; ((conv=>whnf);repeat (first|apply Hs|apply Hx);conv=>whnf)
            exact ⟨(r45.2.1, ()), hm, ⟨O, trivial⟩, VLe.refl _ _, VLe.refl _ _, VLe.refl _ _, VLe.refl _ _, VLe.refl _ _, trivial⟩
           ·replace hm := hm.2 hc; ((conv=>whnf);repeat (first|apply Hs|apply Hx);conv=>whnf)
            exact ⟨(false, ()), hm, ⟨O, trivial⟩, VLe.refl _ _, VLe.refl _ _, VLe.refl _ _, VLe.refl _ _, VLe.refl _ _, trivial⟩
          ·clear hm; rintro ⟨v52, _⟩ base h hm ⟨O, _⟩
           ((conv=>whnf);repeat (first|apply Cs|apply Hs|apply Hx);conv=>whnf)
           refine ⟨_, rfl, fun hc => ?_, fun hc => ?_⟩
           ·replace hm := hm.1 hc
            apply Cs;((conv=>whnf);repeat (first|apply Cs|apply Hs|apply Hx);conv=>whnf)
            obtain ⟨x54, hx54, hm⟩ := hm
            refine flAtM (s := 1) (enc := n8) (j := v50) rfl rfl rfl rfl hx54 ?_; ((conv=>whnf);repeat (first|apply Hs|apply Hx);conv=>whnf)
            refine ⟨_, (rfl : aread _ _ _ _ = some _), ?_⟩; ((conv=>whnf);repeat (first|apply Hs|apply Hx);conv=>whnf)
            refine ⟨.inl rfl, ?_⟩; ((conv=>whnf);repeat (first|apply Hs|apply Hx);conv=>whnf)
            obtain ⟨x55, hx55, hm⟩ := hm
            refine flAtM (s := 1) (enc := n8) (j := v50) rfl rfl rfl rfl hx55 ?_; ((conv=>whnf);repeat (first|apply Hs|apply Hx);conv=>whnf)
            refine ⟨_, (rfl : aread _ _ _ _ = some _), ?_⟩; ((conv=>whnf);repeat (first|apply Hs|apply Hx);conv=>whnf)
            refine ⟨.inl rfl, ?_⟩; ((conv=>whnf);repeat (first|apply Cs|apply Hs|apply Hx);conv=>whnf)
            refine ⟨_, rfl, fun hc => ?_, fun hc => ?_⟩
            ·replace hm := hm.1 hc
             apply Cs;((conv=>whnf);repeat (first|apply Cs|apply Hs|apply Hx);conv=>whnf)
             exact ⟨false, hm, O.ext, fun h2 F => VLe.refl _ _⟩
            ·replace hm := hm.2 hc
             apply Cs;((conv=>whnf);repeat (first|apply Cs|apply Hs|apply Hx);conv=>whnf)
             refine ⟨_, addK (a := v50) (b := 1) rfl rfl hm.1, ?_⟩; ((conv=>whnf);repeat (first|apply Hs|apply Hx);conv=>whnf)
             replace hm := hm.2
             exact ⟨((v50 + 1), ()), hm, ⟨O, trivial⟩, VLe.refl _ _, VLe.refl _ _, VLe.refl _ _, VLe.refl _ _, trivial⟩
           ·replace hm := hm.2 hc
            apply Cs;((conv=>whnf);repeat (first|apply Cs|apply Hs|apply Hx);conv=>whnf)
            exact ⟨((), ()), hm, ⟨O, trivial⟩, trivial⟩
         ·clear hm; rintro ⟨_, _⟩ base h hm ⟨O, _⟩
          ((conv=>whnf);repeat (first|apply Cs|apply Hs|apply Hx);conv=>whnf)
          obtain ⟨r56, hm, hcall⟩ := law24_lives_walk hm O.has
          refine ⟨_, _, hcall, ?_⟩; ((conv=>whnf);repeat (first|apply Cs|apply Hs|apply Hx);conv=>whnf)
          exact ⟨r56, hm, O.ext, fun h2 F => VLe.refl _ _⟩
end Go.Proofs.YtfhldkgelipnaaaDoor
