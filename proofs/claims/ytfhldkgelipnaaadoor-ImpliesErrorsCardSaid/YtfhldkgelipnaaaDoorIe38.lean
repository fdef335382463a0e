/-
  N1: parts of the proof.
-/
import Derived.Test.YtfhldkgelipnaaaDoorIe37
namespace Go.Proofs.YtfhldkgelipnaaaDoor
open Go.Abs
set_option maxRecDepth 100000
set_option maxHeartbeats 8000000
def sl_IndexV_wp (p0 : (List Nat)) (p1 : Nat) (K : Int → Prop) : Prop :=
  joinW (α := Unit) (fun k1 => loopW (S := Nat) (fun v2 nx3 => ((ltN v2 p0.length) = true → ∃ x4, p0[v2]? = some x4 ∧ ((eqN p1 x4) = true → K (Int.ofNat v2)) ∧ ((eqN p1 x4) = false → v2 + 1 < 2 ^ 63 ∧ nx3 (v2 + 1))) ∧ ((ltN v2 p0.length) = false → k1 ())) 0) (fun _ => K (Int.negSucc 0))
theorem sl_IndexV_walk {p0 : (List Nat)} {p1 : Nat} {K : Int → Prop} (hm : sl_IndexV_wp p0 p1 K) {h0 : Heap} (hB : HasB vars h0) : ∃ r, K r ∧ CallD Tryd.prog NG 72 ⟨[(encL 1 n8) p0, n8 p1]⟩ h0 (z64 r) h0 := by
  unfold sl_IndexV_wp at hm
  refine fnW hM Tryd.func72 rfl (hP _ _ rfl Tryd.func72) (Nat.le_of_ble_eq_true rfl) hB (enc := z64) (fun r => PureV.flat rfl) fun O => ?_; conv=>whnf
  apply Cs;conv=>whnf
  apply Cs;((conv=>whnf);repeat (first|apply Hs|apply Hx);conv=>whnf)
  refine CodeS.joinWS hm (nn := 19) (σ := Unit × Unit) (fun s => s.1) (fun (_, _) h => Own vars h0 [] h ∧ True) (fun (_, _) => []) rfl (fun hm' => ?_) ?_
  ·replace hm := hm'
   apply Cs;((conv=>whnf);repeat (first|apply Cs|apply Hs|apply Hx);conv=>whnf)
   refine lenM (s := 1) (enc := n8) (l := p0) rfl rfl ?_; ((conv=>whnf);repeat (first|apply Cs|apply Hs|apply Hx);conv=>whnf)
   refine loopWK hM (by kernel_rfl) (nn := 19) (S := Nat) (σ := Nat × Unit) (fun s => s.1) (fun (v2, _) h => Own vars h0 [] h ∧ True) (fun (v2, _) => [(0, ((encL 1 n8) p0)), (1, (n8 p1)), (7, (i64 p0.length)), (8, (i64 v2))]) rfl (0, ()) hm ⟨O, trivial⟩ ⟨VLe.refl _ _, VLe.refl _ _, VLe.refl _ _, VLe.refl _ _, trivial⟩ ?_
   clear hm; rintro ⟨v2, _⟩ nx3 base h hm ⟨O, _⟩
   ((conv=>whnf);repeat (first|apply Cs|apply Hs|apply Hx);conv=>whnf)
   refine ⟨_, rfl, fun hc => ?_, fun hc => ?_⟩
   ·replace hm := hm.1 hc
    apply Cs;((conv=>whnf);repeat (first|apply Cs|apply Hs|apply Hx);conv=>whnf)
    obtain ⟨x4, hx4, hm⟩ := hm
    refine flAtM (s := 1) (enc := n8) (j := v2) rfl rfl rfl rfl hx4 ?_; ((conv=>whnf);repeat (first|apply Hs|apply Hx);conv=>whnf)
    refine ⟨_, (rfl : aread _ _ _ _ = some _), ?_⟩; ((conv=>whnf);repeat (first|apply Cs|apply Hs|apply Hx);conv=>whnf)
    refine ⟨_, rfl, fun hc => ?_, fun hc => ?_⟩
    ·replace hm := hm.1 hc
     apply Cs;((conv=>whnf);repeat (first|apply Cs|apply Hs|apply Hx);conv=>whnf)
     exact ⟨(Int.ofNat v2), hm, O.ext, fun h2 F => VLe.refl _ _⟩
    ·replace hm := hm.2 hc
     apply Cs;((conv=>whnf);repeat (first|apply Cs|apply Hs|apply Hx);conv=>whnf)
     refine ⟨_, addK (a := v2) (b := 1) rfl rfl hm.1, ?_⟩; ((conv=>whnf);repeat (first|apply Hs|apply Hx);conv=>whnf)
     replace hm := hm.2
     exact ⟨((v2 + 1), ()), hm, ⟨O, trivial⟩, VLe.refl _ _, VLe.refl _ _, VLe.refl _ _, VLe.refl _ _, trivial⟩
   ·replace hm := hm.2 hc
    apply Cs;((conv=>whnf);repeat (first|apply Cs|apply Hs|apply Hx);conv=>whnf)
    exact ⟨((), ()), hm, ⟨O, trivial⟩, trivial⟩
  ·clear hm; rintro ⟨_, _⟩ base h hm ⟨O, _⟩
   ((conv=>whnf);repeat (first|apply Cs|apply Hs|apply Hx);conv=>whnf)
   exact ⟨(Int.negSucc 0), hm, O.ext, fun h2 F => VLe.refl _ _⟩
def sl_ContainsV_wp (p0 : (List Nat)) (p1 : Nat) (K : Bool → Prop) : Prop :=
  sl_IndexV_wp p0 p1 (fun r1 => K (!ltI r1 (Int.ofNat 0)))
theorem sl_ContainsV_walk {p0 : (List Nat)} {p1 : Nat} {K : Bool → Prop} (hm : sl_ContainsV_wp p0 p1 K) {h0 : Heap} (hB : HasB vars h0) : ∃ r, K r ∧ CallD Tryd.prog NG 70 ⟨[(encL 1 n8) p0, n8 p1]⟩ h0 (Value.bool r) h0 := by
  unfold sl_ContainsV_wp at hm
  refine fnW hM Tryd.func70 rfl (hP _ _ rfl Tryd.func70) (Nat.le_of_ble_eq_true rfl) hB (enc := Value.bool) (fun r => PureV.flat rfl) fun O => ?_; conv=>whnf
  apply Cs;((conv=>whnf);repeat (first|apply Cs|apply Hs|apply Hx);conv=>whnf)
  obtain ⟨r1, hm, hcall⟩ := sl_IndexV_walk hm O.has
  refine ⟨_, _, hcall, ?_⟩; ((conv=>whnf);repeat (first|apply Cs|apply Hs|apply Hx);conv=>whnf)
  exact ⟨(!ltI r1 (Int.ofNat 0)), hm, O.ext, fun h2 F => VLe.refl _ _⟩
def logic_Clean_wp (p0 : Nat) (K : Nat → Prop) : Prop :=
  ((ltN 3 p0) = true → K 2) ∧ ((ltN 3 p0) = false → K p0)
theorem logic_Clean_walk {p0 : Nat} {K : Nat → Prop} (hm : logic_Clean_wp p0 K) {h0 : Heap} (hB : HasB vars h0) : ∃ r, K r ∧ CallD Tryd.prog NG 38 ⟨[n8 p0]⟩ h0 (n8 r) h0 := by
  unfold logic_Clean_wp at hm
  refine fnW hM Tryd.func38 rfl (hP _ _ rfl Tryd.func38) (Nat.le_of_ble_eq_true rfl) hB (enc := n8) (fun r => PureV.flat rfl) fun O => ?_; conv=>whnf
  apply Cs;((conv=>whnf);repeat (first|apply Cs|apply Hs|apply Hx);conv=>whnf)
  refine ⟨_, rfl, fun hc => ?_, fun hc => ?_⟩
  ·replace hm := hm.1 hc
   apply Cs;((conv=>whnf);repeat (first|apply Cs|apply Hs|apply Hx);conv=>whnf)
   exact ⟨2, hm, O.ext, fun h2 F => VLe.refl _ _⟩
  ·replace hm := hm.2 hc
   apply Cs;((conv=>whnf);repeat (first|apply Cs|apply Hs|apply Hx);conv=>whnf)
   exact ⟨p0, hm, O.ext, fun h2 F => VLe.refl _ _⟩
def cf_unknownI_wp (p0 : (List Nat)) (K : Int → Prop) : Prop :=
  joinW (α := Unit) (fun k1 => loopW (S := Nat) (fun v2 nx3 => ((ltN v2 p0.length) = true → ∃ x4, p0[v2]? = some x4 ∧ logic_Clean_wp x4 (fun r5 => ((eqN r5 2) = true → K (Int.ofNat v2)) ∧ ((eqN r5 2) = false → v2 + 1 < 2 ^ 63 ∧ nx3 (v2 + 1)))) ∧ ((ltN v2 p0.length) = false → k1 ())) 0) (fun _ => K (Int.negSucc 0))
theorem cf_unknownI_walk {p0 : (List Nat)} {K : Int → Prop} (hm : cf_unknownI_wp p0 K) {h0 : Heap} (hB : HasB vars h0) : ∃ r, K r ∧ CallD Tryd.prog NG 45 ⟨[(encL 1 n8) p0, (.func (.func 65) ⟨[]⟩ ⟨[]⟩)]⟩ h0 (z64 r) h0 := by
  unfold cf_unknownI_wp at hm
  refine fnW hM Tryd.func45 rfl (hP _ _ rfl Tryd.func45) (Nat.le_of_ble_eq_true rfl) hB (enc := z64) (fun r => PureV.flat rfl) fun O => ?_; conv=>whnf
  apply Cs;conv=>whnf
  apply Cs;((conv=>whnf);repeat (first|apply Hs|apply Hx);conv=>whnf)
  refine CodeS.joinWS hm (nn := 19) (σ := Unit × Unit) (fun s => s.1) (fun (_, _) h => Own vars h0 [] h ∧ True) (fun (_, _) => []) rfl (fun hm' => ?_) ?_
  ·replace hm := hm'
   apply Cs;((conv=>whnf);repeat (first|apply Cs|apply Hs|apply Hx);conv=>whnf)
   refine lenM (s := 1) (enc := n8) (l := p0) rfl rfl ?_; ((conv=>whnf);repeat (first|apply Cs|apply Hs|apply Hx);conv=>whnf)
   refine loopWK hM (by kernel_rfl) (nn := 19) (S := Nat) (σ := Nat × Unit) (fun s => s.1) (fun (v2, _) h => Own vars h0 [] h ∧ True) (fun (v2, _) => [(0, ((encL 1 n8) p0)), (1, (.func (.func 65) ⟨[]⟩ ⟨[]⟩)), (7, (i64 p0.length)), (8, (i64 v2))]) rfl (0, ()) hm ⟨O, trivial⟩ ⟨VLe.refl _ _, VLe.refl _ _, VLe.refl _ _, VLe.refl _ _, trivial⟩ ?_
   clear hm; rintro ⟨v2, _⟩ nx3 base h hm ⟨O, _⟩
   ((conv=>whnf);repeat (first|apply Cs|apply Hs|apply Hx);conv=>whnf)
   refine ⟨_, rfl, fun hc => ?_, fun hc => ?_⟩
   ·replace hm := hm.1 hc
    apply Cs;((conv=>whnf);repeat (first|apply Cs|apply Hs|apply Hx);conv=>whnf)
    obtain ⟨x4, hx4, hm⟩ := hm
    refine flAtM (s := 1) (enc := n8) (j := v2) rfl rfl rfl rfl hx4 ?_; ((conv=>whnf);repeat (first|apply Hs|apply Hx);conv=>whnf)
    refine ⟨_, (rfl : aread _ _ _ _ = some _), ?_⟩; ((conv=>whnf);repeat (first|apply Hs|apply Hx);conv=>whnf)
    refine fnG hM Tryd.func65 rfl (hP _ _ rfl Tryd.func65) (Nat.le_of_ble_eq_true rfl) ?_; ((conv=>whnf);repeat (first|apply Cs|apply Hs|apply Hx);conv=>whnf)
    obtain ⟨r5, hm, hcall⟩ := logic_Clean_walk hm O.has
    refine ⟨_, _, hcall, ?_⟩; ((conv=>whnf);repeat (first|apply Cs|apply Hs|apply Hx);conv=>whnf)
    refine ⟨_, rfl, fun hc => ?_, fun hc => ?_⟩
    ·replace hm := hm.1 hc
     apply Cs;((conv=>whnf);repeat (first|apply Cs|apply Hs|apply Hx);conv=>whnf)
     exact ⟨(Int.ofNat v2), hm, O.ext, fun h2 F => VLe.refl _ _⟩
    ·replace hm := hm.2 hc
     apply Cs;((conv=>whnf);repeat (first|apply Cs|apply Hs|apply Hx);conv=>whnf)
     refine ⟨_, addK (a := v2) (b := 1) rfl rfl hm.1, ?_⟩; ((conv=>whnf);repeat (first|apply Hs|apply Hx);conv=>whnf)
     replace hm := hm.2
     exact ⟨((v2 + 1), ()), hm, ⟨O, trivial⟩, VLe.refl _ _, VLe.refl _ _, VLe.refl _ _, VLe.refl _ _, trivial⟩
   ·replace hm := hm.2 hc
    apply Cs;((conv=>whnf);repeat (first|apply Cs|apply Hs|apply Hx);conv=>whnf)
    exact ⟨((), ()), hm, ⟨O, trivial⟩, trivial⟩
  ·clear hm; rintro ⟨_, _⟩ base h hm ⟨O, _⟩
   ((conv=>whnf);repeat (first|apply Cs|apply Hs|apply Hx);conv=>whnf)
   exact ⟨(Int.negSucc 0), hm, O.ext, fun h2 F => VLe.refl _ _⟩
def cf_unknown_wp (p0 : (List Nat)) (K : Bool → Prop) : Prop :=
  cf_unknownI_wp p0 (fun r1 => K (!ltI r1 (Int.ofNat 0)))
theorem cf_unknown_walk {p0 : (List Nat)} {K : Bool → Prop} (hm : cf_unknown_wp p0 K) {h0 : Heap} (hB : HasB vars h0) : ∃ r, K r ∧ CallD Tryd.prog NG 30 ⟨[(encL 1 n8) p0, (.func (.func 65) ⟨[]⟩ ⟨[]⟩)]⟩ h0 (Value.bool r) h0 := by
  unfold cf_unknown_wp at hm
  refine fnW hM Tryd.func30 rfl (hP _ _ rfl Tryd.func30) (Nat.le_of_ble_eq_true rfl) hB (enc := Value.bool) (fun r => PureV.flat rfl) fun O => ?_; conv=>whnf
  apply Cs;((conv=>whnf);repeat (first|apply Cs|apply Hs|apply Hx);conv=>whnf)
  obtain ⟨r1, hm, hcall⟩ := cf_unknownI_walk hm O.has
  refine ⟨_, _, hcall, ?_⟩; ((conv=>whnf);repeat (first|apply Cs|apply Hs|apply Hx);conv=>whnf)
  exact ⟨(!ltI r1 (Int.ofNat 0)), hm, O.ext, fun h2 F => VLe.refl _ _⟩
def if_driven_wp (p0 : (List Nat)) (K : Int → Prop) : Prop :=
  joinW (α := Unit) (fun k1 => loopW (S := Nat) (fun v2 nx3 => ((ltN v2 p0.length) = true → ∃ x4, p0[v2]? = some x4 ∧ ((neN x4 3) = true → K (Int.ofNat v2)) ∧ ((neN x4 3) = false → v2 + 1 < 2 ^ 63 ∧ nx3 (v2 + 1))) ∧ ((ltN v2 p0.length) = false → k1 ())) 0) (fun _ => K (Int.negSucc 0))
theorem if_driven_walk {p0 : (List Nat)} {K : Int → Prop} (hm : if_driven_wp p0 K) {h0 : Heap} (hB : HasB vars h0) : ∃ r, K r ∧ CallD Tryd.prog NG 45 ⟨[(encL 1 n8) p0, (.func (.func 66) ⟨[]⟩ ⟨[]⟩)]⟩ h0 (z64 r) h0 := by
  unfold if_driven_wp at hm
  refine fnW hM Tryd.func45 rfl (hP _ _ rfl Tryd.func45) (Nat.le_of_ble_eq_true rfl) hB (enc := z64) (fun r => PureV.flat rfl) fun O => ?_; conv=>whnf
  apply Cs;conv=>whnf
  apply Cs;((conv=>whnf);repeat (first|apply Hs|apply Hx);conv=>whnf)
  refine CodeS.joinWS hm (nn := 19) (σ := Unit × Unit) (fun s => s.1) (fun (_, _) h => Own vars h0 [] h ∧ True) (fun (_, _) => []) rfl (fun hm' => ?_) ?_
  ·replace hm := hm'
   apply Cs;((conv=>whnf);repeat (first|apply Cs|apply Hs|apply Hx);conv=>whnf)
   refine lenM (s := 1) (enc := n8) (l := p0) rfl rfl ?_; ((conv=>whnf);repeat (first|apply Cs|apply Hs|apply Hx);conv=>whnf)
   refine loopWK hM (by kernel_rfl) (nn := 19) (S := Nat) (σ := Nat × Unit) (fun s => s.1) (fun (v2, _) h => Own vars h0 [] h ∧ True) (fun (v2, _) => [(0, ((encL 1 n8) p0)), (1, (.func (.func 66) ⟨[]⟩ ⟨[]⟩)), (7, (i64 p0.length)), (8, (i64 v2))]) rfl (0, ()) hm ⟨O, trivial⟩ ⟨VLe.refl _ _, VLe.refl _ _, VLe.refl _ _, VLe.refl _ _, trivial⟩ ?_
   clear hm; rintro ⟨v2, _⟩ nx3 base h hm ⟨O, _⟩
   ((conv=>whnf);repeat (first|apply Cs|apply Hs|apply Hx);conv=>whnf)
   refine ⟨_, rfl, fun hc => ?_, fun hc => ?_⟩
   ·replace hm := hm.1 hc
    apply Cs;((conv=>whnf);repeat (first|apply Cs|apply Hs|apply Hx);conv=>whnf)
    obtain ⟨x4, hx4, hm⟩ := hm
    refine flAtM (s := 1) (enc := n8) (j := v2) rfl rfl rfl rfl hx4 ?_; ((conv=>whnf);repeat (first|apply Hs|apply Hx);conv=>whnf)
    refine ⟨_, (rfl : aread _ _ _ _ = some _), ?_⟩; ((conv=>whnf);repeat (first|apply Hs|apply Hx);conv=>whnf)
    refine fnG hM Tryd.func66 rfl (hP _ _ rfl Tryd.func66) (Nat.le_of_ble_eq_true rfl) ?_; ((conv=>whnf);repeat (first|apply Cs|apply Hs|apply Hx);conv=>whnf)
    refine ⟨_, rfl, fun hc => ?_, fun hc => ?_⟩
    ·replace hm := hm.1 hc
     apply Cs;((conv=>whnf);repeat (first|apply Cs|apply Hs|apply Hx);conv=>whnf)
     exact ⟨(Int.ofNat v2), hm, O.ext, fun h2 F => VLe.refl _ _⟩
    ·replace hm := hm.2 hc
     apply Cs;((conv=>whnf);repeat (first|apply Cs|apply Hs|apply Hx);conv=>whnf)
     refine ⟨_, addK (a := v2) (b := 1) rfl rfl hm.1, ?_⟩; ((conv=>whnf);repeat (first|apply Hs|apply Hx);conv=>whnf)
     replace hm := hm.2
     exact ⟨((v2 + 1), ()), hm, ⟨O, trivial⟩, VLe.refl _ _, VLe.refl _ _, VLe.refl _ _, VLe.refl _ _, trivial⟩
   ·replace hm := hm.2 hc
    apply Cs;((conv=>whnf);repeat (first|apply Cs|apply Hs|apply Hx);conv=>whnf)
    exact ⟨((), ()), hm, ⟨O, trivial⟩, trivial⟩
  ·clear hm; rintro ⟨_, _⟩ base h hm ⟨O, _⟩
   ((conv=>whnf);repeat (first|apply Cs|apply Hs|apply Hx);conv=>whnf)
   exact ⟨(Int.negSucc 0), hm, O.ext, fun h2 F => VLe.refl _ _⟩
def logic_Known_wp (p0 : Nat) (K : Bool → Prop) : Prop :=
  K (!ltN 1 p0)
theorem logic_Known_walk {p0 : Nat} {K : Bool → Prop} (hm : logic_Known_wp p0 K) {h0 : Heap} (hB : HasB vars h0) : ∃ r, K r ∧ CallD Tryd.prog NG 25 ⟨[n8 p0]⟩ h0 (Value.bool r) h0 := by
  unfold logic_Known_wp at hm
  refine fnW hM Tryd.func25 rfl (hP _ _ rfl Tryd.func25) (Nat.le_of_ble_eq_true rfl) hB (enc := Value.bool) (fun r => PureV.flat rfl) fun O => ?_; conv=>whnf
  apply Cs;((conv=>whnf);repeat (first|apply Cs|apply Hs|apply Hx);conv=>whnf)
  exact ⟨(!ltN 1 p0), hm, O.ext, fun h2 F => VLe.refl _ _⟩
def logic_Not_wp (p0 : Nat) (K : Nat → Prop) : Prop :=
  logic_Known_wp p0 (fun r1 => (r1 = true → p0 ≤ 1 ∧ 1 < 256 ∧ K (1 - p0)) ∧ (r1 = false → K 2))
theorem logic_Not_walk {p0 : Nat} {K : Nat → Prop} (hm : logic_Not_wp p0 K) {h0 : Heap} (hB : HasB vars h0) : ∃ r, K r ∧ CallD Tryd.prog NG 46 ⟨[n8 p0]⟩ h0 (n8 r) h0 := by
  unfold logic_Not_wp at hm
  refine fnW hM Tryd.func46 rfl (hP _ _ rfl Tryd.func46) (Nat.le_of_ble_eq_true rfl) hB (enc := n8) (fun r => PureV.flat rfl) fun O => ?_; conv=>whnf
  apply Cs;((conv=>whnf);repeat (first|apply Cs|apply Hs|apply Hx);conv=>whnf)
  obtain ⟨r1, hm, hcall⟩ := logic_Known_walk hm O.has
  refine ⟨_, _, hcall, ?_⟩; ((conv=>whnf);repeat (first|apply Cs|apply Hs|apply Hx);conv=>whnf)
  refine ⟨_, rfl, fun hc => ?_, fun hc => ?_⟩
  ·replace hm := hm.1 hc
   apply Cs;((conv=>whnf);repeat (first|apply Cs|apply Hs|apply Hx);conv=>whnf)
   refine ⟨_, subU8K (a := 1) (b := p0) rfl rfl hm.1 hm.2.1, ?_⟩; ((conv=>whnf);repeat (first|apply Cs|apply Hs|apply Hx);conv=>whnf)
   replace hm := hm.2.2
   exact ⟨(1 - p0), hm, O.ext, fun h2 F => VLe.refl _ _⟩
  ·replace hm := hm.2 hc
   apply Cs;((conv=>whnf);repeat (first|apply Cs|apply Hs|apply Hx);conv=>whnf)
   exact ⟨2, hm, O.ext, fun h2 F => VLe.refl _ _⟩
def logic_Read_wp (p0 : Nat) (K : Nat → Prop) : Prop :=
  K (min p0 2)
theorem logic_Read_walk {p0 : Nat} {K : Nat → Prop} (hm : logic_Read_wp p0 K) {h0 : Heap} (hB : HasB vars h0) : ∃ r, K r ∧ CallD Tryd.prog NG 34 ⟨[n8 p0]⟩ h0 (n8 r) h0 := by
  unfold logic_Read_wp at hm
  refine fnW hM Tryd.func34 rfl (hP _ _ rfl Tryd.func34) (Nat.le_of_ble_eq_true rfl) hB (enc := n8) (fun r => PureV.flat rfl) fun O => ?_; conv=>whnf
  apply Cs;((conv=>whnf);repeat (first|apply Cs|apply Hs|apply Hx);conv=>whnf)
  refine ⟨_, minK (a := p0) (b := 2) rfl rfl, ?_⟩; ((conv=>whnf);repeat (first|apply Cs|apply Hs|apply Hx);conv=>whnf)
  exact ⟨(min p0 2), hm, O.ext, fun h2 F => VLe.refl _ _⟩
def logic_decided_wp (p0 : (List Nat)) (p1 : Nat) (p2 : Nat) (K : Nat → Prop) : Prop :=
  joinW (α := Nat) (fun k2 => loopW (S := (Nat × Nat)) (fun (v3, v4) nx5 => ((ltN v4 p0.length) = true → joinW (α := Nat) (fun k7 => ∃ x8, p0[v4]? = some x8 ∧ ((eqN x8 p1) = true → K p1) ∧ ((eqN x8 p1) = false → ((neN x8 p2) = true → k7 2) ∧ ((neN x8 p2) = false → k7 v3))) (fun v6 => v4 + 1 < 2 ^ 63 ∧ nx5 (v6, (v4 + 1)))) ∧ ((ltN v4 p0.length) = false → k2 v3)) (p2, 0)) (fun v1 => K v1)
theorem logic_decided_walk {p0 : (List Nat)} {p1 : Nat} {p2 : Nat} {K : Nat → Prop} (hm : logic_decided_wp p0 p1 p2 K) {h0 : Heap} (hB : HasB vars h0) : ∃ r, K r ∧ CallD Tryd.prog NG 64 ⟨[(encL 1 n8) p0, n8 p1, n8 p2]⟩ h0 (n8 r) h0 := by
  unfold logic_decided_wp at hm
  refine fnW hM Tryd.func64 rfl (hP _ _ rfl Tryd.func64) (Nat.le_of_ble_eq_true rfl) hB (enc := n8) (fun r => PureV.flat rfl) fun O => ?_; conv=>whnf
  apply Cs;conv=>whnf
  apply Cs;((conv=>whnf);repeat (first|apply Hs|apply Hx);conv=>whnf)
  apply Cs;conv=>whnf
  apply Cs;((conv=>whnf);repeat (first|apply Hs|apply Hx);conv=>whnf)
  refine CodeS.joinWS hm (nn := 28) (σ := Nat × Unit) (fun s => s.1) (fun (v1, _) h => Own vars h0 [] h ∧ True) (fun (v1, _) => [(7, (n8 v1))]) rfl (fun hm' => ?_) ?_
  ·replace hm := hm'
   apply Cs;((conv=>whnf);repeat (first|apply Cs|apply Hs|apply Hx);conv=>whnf)
   refine lenM (s := 1) (enc := n8) (l := p0) rfl rfl ?_; ((conv=>whnf);repeat (first|apply Cs|apply Hs|apply Hx);conv=>whnf)
   refine loopWK hM (by kernel_rfl) (nn := 28) (S := (Nat × Nat)) (σ := (Nat × Nat) × Unit) (fun s => s.1) (fun ((v3, v4), _) h => Own vars h0 [] h ∧ True) (fun ((v3, v4), _) => [(1, (n8 p1)), (2, (n8 p2)), (7, (n8 v3)), (11, ((encL 1 n8) p0)), (12, (i64 p0.length)), (13, (i64 v4))]) rfl ((p2, 0), ()) hm ⟨O, trivial⟩ ⟨VLe.refl _ _, VLe.refl _ _, VLe.refl _ _, VLe.refl _ _, VLe.refl _ _, VLe.refl _ _, trivial⟩ ?_
   clear hm; rintro ⟨⟨v3, v4⟩, _⟩ nx5 base h hm ⟨O, _⟩
   ((conv=>whnf);repeat (first|apply Cs|apply Hs|apply Hx);conv=>whnf)
   refine ⟨_, rfl, fun hc => ?_, fun hc => ?_⟩
   ·replace hm := hm.1 hc
    apply Cs;conv=>whnf
    refine CodeS.joinWS hm (nn := 28) (σ := Nat × Unit) (fun s => s.1) (fun (v6, _) h => Own vars h0 [] h ∧ True) (fun (v6, _) => [(1, (n8 p1)), (2, (n8 p2)), (7, (n8 v6)), (11, ((encL 1 n8) p0)), (12, (i64 p0.length)), (13, (i64 v4))]) rfl (fun hm' => ?_) ?_
    ·replace hm := hm'
     apply Cs;((conv=>whnf);repeat (first|apply Cs|apply Hs|apply Hx);conv=>whnf)
     obtain ⟨x8, hx8, hm⟩ := hm
     refine flAtM (s := 1) (enc := n8) (j := v4) rfl rfl rfl rfl hx8 ?_; ((conv=>whnf);repeat (first|apply Hs|apply Hx);conv=>whnf)
     refine ⟨_, (rfl : aread _ _ _ _ = some _), ?_⟩; ((conv=>whnf);repeat (first|apply Cs|apply Hs|apply Hx);conv=>whnf)
     refine ⟨_, rfl, fun hc => ?_, fun hc => ?_⟩
     ·replace hm := hm.1 hc
      apply Cs;((conv=>whnf);repeat (first|apply Cs|apply Hs|apply Hx);conv=>whnf)
      exact ⟨p1, hm, O.ext, fun h2 F => VLe.refl _ _⟩
     ·replace hm := hm.2 hc
      apply Cs;((conv=>whnf);repeat (first|apply Cs|apply Hs|apply Hx);conv=>whnf)
      refine ⟨_, rfl, fun hc => ?_, fun hc => ?_⟩
      ·replace hm := hm.1 hc
       apply Cs;((conv=>whnf);repeat (first|apply Cs|apply Hs|apply Hx);conv=>whnf)
       exact ⟨(2, ()), hm, ⟨O, trivial⟩, VLe.refl _ _, VLe.refl _ _, VLe.refl _ _, VLe.refl _ _, VLe.refl _ _, VLe.refl _ _, trivial⟩
      ·replace hm := hm.2 hc
       apply Cs;((conv=>whnf);repeat (first|apply Cs|apply Hs|apply Hx);conv=>whnf)
       exact ⟨(v3, ()), hm, ⟨O, trivial⟩, VLe.refl _ _, VLe.refl _ _, VLe.refl _ _, VLe.refl _ _, VLe.refl _ _, VLe.refl _ _, trivial⟩
    ·clear hm; rintro ⟨v6, _⟩ base h hm ⟨O, _⟩
     ((conv=>whnf);repeat (first|apply Cs|apply Hs|apply Hx);conv=>whnf)
     refine ⟨_, addK (a := v4) (b := 1) rfl rfl hm.1, ?_⟩; ((conv=>whnf);repeat (first|apply Hs|apply Hx);conv=>whnf)
     replace hm := hm.2
     exact ⟨((v6, (v4 + 1)), ()), hm, ⟨O, trivial⟩, VLe.refl _ _, VLe.refl _ _, VLe.refl _ _, VLe.refl _ _, VLe.refl _ _, VLe.refl _ _, trivial⟩
   ·replace hm := hm.2 hc
    apply Cs;((conv=>whnf);repeat (first|apply Cs|apply Hs|apply Hx);conv=>whnf)
    exact ⟨(v3, ()), hm, ⟨O, trivial⟩, VLe.refl _ _, trivial⟩
  ·clear hm; rintro ⟨v1, _⟩ base h hm ⟨O, _⟩
   ((conv=>whnf);repeat (first|apply Cs|apply Hs|apply Hx);conv=>whnf)
   exact ⟨v1, hm, O.ext, fun h2 F => VLe.refl _ _⟩
def logic_And_wp (p0 : (List Nat)) (K : Nat → Prop) : Prop :=
  logic_decided_wp p0 0 1 (fun r1 => K r1)
theorem logic_And_walk {p0 : (List Nat)} {K : Nat → Prop} (hm : logic_And_wp p0 K) {h0 : Heap} (hB : HasB vars h0) : ∃ r, K r ∧ CallD Tryd.prog NG 47 ⟨[(encL 1 n8) p0]⟩ h0 (n8 r) h0 := by
  unfold logic_And_wp at hm
  refine fnW hM Tryd.func47 rfl (hP _ _ rfl Tryd.func47) (Nat.le_of_ble_eq_true rfl) hB (enc := n8) (fun r => PureV.flat rfl) fun O => ?_; conv=>whnf
  apply Cs;((conv=>whnf);repeat (first|apply Cs|apply Hs|apply Hx);conv=>whnf)
  obtain ⟨r1, hm, hcall⟩ := logic_decided_walk hm O.has
  refine ⟨_, _, hcall, ?_⟩; ((conv=>whnf);repeat (first|apply Cs|apply Hs|apply Hx);conv=>whnf)
  exact ⟨r1, hm, O.ext, fun h2 F => VLe.refl _ _⟩
def logic_Or_wp (p0 : (List Nat)) (K : Nat → Prop) : Prop :=
  logic_decided_wp p0 1 0 (fun r1 => K r1)
theorem logic_Or_walk {p0 : (List Nat)} {K : Nat → Prop} (hm : logic_Or_wp p0 K) {h0 : Heap} (hB : HasB vars h0) : ∃ r, K r ∧ CallD Tryd.prog NG 48 ⟨[(encL 1 n8) p0]⟩ h0 (n8 r) h0 := by
  unfold logic_Or_wp at hm
  refine fnW hM Tryd.func48 rfl (hP _ _ rfl Tryd.func48) (Nat.le_of_ble_eq_true rfl) hB (enc := n8) (fun r => PureV.flat rfl) fun O => ?_; conv=>whnf
  apply Cs;((conv=>whnf);repeat (first|apply Cs|apply Hs|apply Hx);conv=>whnf)
  obtain ⟨r1, hm, hcall⟩ := logic_decided_walk hm O.has
  refine ⟨_, _, hcall, ?_⟩; ((conv=>whnf);repeat (first|apply Cs|apply Hs|apply Hx);conv=>whnf)
  exact ⟨r1, hm, O.ext, fun h2 F => VLe.refl _ _⟩
def logic_Xor_wp (p0 : (List Nat)) (K : Nat → Prop) : Prop :=
  joinW (α := Nat) (fun k2 => loopW (S := (Nat × Nat)) (fun (v3, v4) nx5 => ((ltN v4 p0.length) = true → ∃ x6, p0[v4]? = some x6 ∧ logic_Known_wp x6 (fun r7 => ((!r7) = true → K 2) ∧ ((!r7) = false → v3 < 256 ∧ x6 < 256 ∧ v4 + 1 < 2 ^ 63 ∧ nx5 ((v3 ^^^ x6), (v4 + 1))))) ∧ ((ltN v4 p0.length) = false → k2 v3)) (0, 0)) (fun v1 => K v1)
theorem logic_Xor_walk {p0 : (List Nat)} {K : Nat → Prop} (hm : logic_Xor_wp p0 K) {h0 : Heap} (hB : HasB vars h0) : ∃ r, K r ∧ CallD Tryd.prog NG 49 ⟨[(encL 1 n8) p0]⟩ h0 (n8 r) h0 := by
  unfold logic_Xor_wp at hm
  refine fnW hM Tryd.func49 rfl (hP _ _ rfl Tryd.func49) (Nat.le_of_ble_eq_true rfl) hB (enc := n8) (fun r => PureV.flat rfl) fun O => ?_; conv=>whnf
  apply Cs;conv=>whnf
  apply Cs;((conv=>whnf);repeat (first|apply Hs|apply Hx);conv=>whnf)
  apply Cs;conv=>whnf
  apply Cs;((conv=>whnf);repeat (first|apply Hs|apply Hx);conv=>whnf)
  refine CodeS.joinWS hm (nn := 20) (σ := Nat × Unit) (fun s => s.1) (fun (v1, _) h => Own vars h0 [] h ∧ True) (fun (v1, _) => [(3, (n8 v1))]) rfl (fun hm' => ?_) ?_
  ·replace hm := hm'
   apply Cs;((conv=>whnf);repeat (first|apply Cs|apply Hs|apply Hx);conv=>whnf)
   refine lenM (s := 1) (enc := n8) (l := p0) rfl rfl ?_; ((conv=>whnf);repeat (first|apply Cs|apply Hs|apply Hx);conv=>whnf)
   refine loopWK hM (by kernel_rfl) (nn := 20) (S := (Nat × Nat)) (σ := (Nat × Nat) × Unit) (fun s => s.1) (fun ((v3, v4), _) h => Own vars h0 [] h ∧ True) (fun ((v3, v4), _) => [(3, (n8 v3)), (6, ((encL 1 n8) p0)), (7, (i64 p0.length)), (8, (i64 v4))]) rfl ((0, 0), ()) hm ⟨O, trivial⟩ ⟨VLe.refl _ _, VLe.refl _ _, VLe.refl _ _, VLe.refl _ _, trivial⟩ ?_
   clear hm; rintro ⟨⟨v3, v4⟩, _⟩ nx5 base h hm ⟨O, _⟩
   ((conv=>whnf);repeat (first|apply Cs|apply Hs|apply Hx);conv=>whnf)
   refine ⟨_, rfl, fun hc => ?_, fun hc => ?_⟩
   ·replace hm := hm.1 hc
    apply Cs;((conv=>whnf);repeat (first|apply Cs|apply Hs|apply Hx);conv=>whnf)
    obtain ⟨x6, hx6, hm⟩ := hm
    refine flAtM (s := 1) (enc := n8) (j := v4) rfl rfl rfl rfl hx6 ?_; ((conv=>whnf);repeat (first|apply Hs|apply Hx);conv=>whnf)
    refine ⟨_, (rfl : aread _ _ _ _ = some _), ?_⟩; ((conv=>whnf);repeat (first|apply Cs|apply Hs|apply Hx);conv=>whnf)
    obtain ⟨r7, hm, hcall⟩ := logic_Known_walk hm O.has
    refine ⟨_, _, hcall, ?_⟩; ((conv=>whnf);repeat (first|apply Cs|apply Hs|apply Hx);conv=>whnf)
    refine ⟨_, rfl, fun hc => ?_, fun hc => ?_⟩
    ·replace hm := hm.1 hc
     apply Cs;((conv=>whnf);repeat (first|apply Cs|apply Hs|apply Hx);conv=>whnf)
     exact ⟨2, hm, O.ext, fun h2 F => VLe.refl _ _⟩
    ·replace hm := hm.2 hc
     apply Cs;((conv=>whnf);repeat (first|apply Cs|apply Hs|apply Hx);conv=>whnf)
     refine ⟨_, xorU8K (a := v3) (b := x6) rfl rfl hm.1 hm.2.1, ?_⟩; ((conv=>whnf);repeat (first|apply Cs|apply Hs|apply Hx);conv=>whnf)
     replace hm := hm.2.2
     refine ⟨_, addK (a := v4) (b := 1) rfl rfl hm.1, ?_⟩; ((conv=>whnf);repeat (first|apply Hs|apply Hx);conv=>whnf)
     replace hm := hm.2
     exact ⟨(((v3 ^^^ x6), (v4 + 1)), ()), hm, ⟨O, trivial⟩, VLe.refl _ _, VLe.refl _ _, VLe.refl _ _, VLe.refl _ _, trivial⟩
   ·replace hm := hm.2 hc
    apply Cs;((conv=>whnf);repeat (first|apply Cs|apply Hs|apply Hx);conv=>whnf)
    exact ⟨(v3, ()), hm, ⟨O, trivial⟩, VLe.refl _ _, trivial⟩
  ·clear hm; rintro ⟨v1, _⟩ base h hm ⟨O, _⟩
   ((conv=>whnf);repeat (first|apply Cs|apply Hs|apply Hx);conv=>whnf)
   exact ⟨v1, hm, O.ext, fun h2 F => VLe.refl _ _⟩
def logic_Mux_wp (p0 : Nat) (p1 : Nat) (p2 : Nat) (K : Nat → Prop) : Prop :=
  ((eqN p0 0) = true → logic_Read_wp p1 (fun r1 => K r1)) ∧ ((eqN p0 0) = false → ((eqN p0 1) = true → logic_Read_wp p2 (fun r2 => K r2)) ∧ ((eqN p0 1) = false → ((eqN p1 p2) = true → logic_Read_wp p1 (fun r3 => K r3)) ∧ ((eqN p1 p2) = false → K 2)))
theorem logic_Mux_walk {p0 : Nat} {p1 : Nat} {p2 : Nat} {K : Nat → Prop} (hm : logic_Mux_wp p0 p1 p2 K) {h0 : Heap} (hB : HasB vars h0) : ∃ r, K r ∧ CallD Tryd.prog NG 50 ⟨[n8 p0, n8 p1, n8 p2]⟩ h0 (n8 r) h0 := by
  unfold logic_Mux_wp at hm
  refine fnW hM Tryd.func50 rfl (hP _ _ rfl Tryd.func50) (Nat.le_of_ble_eq_true rfl) hB (enc := n8) (fun r => PureV.flat rfl) fun O => ?_; conv=>whnf
  apply Cs;((conv=>whnf);repeat (first|apply Cs|apply Hs|apply Hx);conv=>whnf)
  refine ⟨_, rfl, fun hc => ?_, fun hc => ?_⟩
  ·replace hm := hm.1 hc
   apply Cs;((conv=>whnf);repeat (first|apply Cs|apply Hs|apply Hx);conv=>whnf)
   obtain ⟨r1, hm, hcall⟩ := logic_Read_walk hm O.has
   refine ⟨_, _, hcall, ?_⟩; ((conv=>whnf);repeat (first|apply Cs|apply Hs|apply Hx);conv=>whnf)
   exact ⟨r1, hm, O.ext, fun h2 F => VLe.refl _ _⟩
  ·replace hm := hm.2 hc
   apply Cs;((conv=>whnf);repeat (first|apply Cs|apply Hs|apply Hx);conv=>whnf)
   refine ⟨_, rfl, fun hc => ?_, fun hc => ?_⟩
   ·replace hm := hm.1 hc
    apply Cs;((conv=>whnf);repeat (first|apply Cs|apply Hs|apply Hx);conv=>whnf)
    obtain ⟨r2, hm, hcall⟩ := logic_Read_walk hm O.has
    refine ⟨_, _, hcall, ?_⟩; ((conv=>whnf);repeat (first|apply Cs|apply Hs|apply Hx);conv=>whnf)
    exact ⟨r2, hm, O.ext, fun h2 F => VLe.refl _ _⟩
   ·replace hm := hm.2 hc
    apply Cs;((conv=>whnf);repeat (first|apply Cs|apply Hs|apply Hx);conv=>whnf)
    refine ⟨_, rfl, fun hc => ?_, fun hc => ?_⟩
    ·replace hm := hm.1 hc
     apply Cs;((conv=>whnf);repeat (first|apply Cs|apply Hs|apply Hx);conv=>whnf)
     obtain ⟨r3, hm, hcall⟩ := logic_Read_walk hm O.has
     refine ⟨_, _, hcall, ?_⟩; ((conv=>whnf);repeat (first|apply Cs|apply Hs|apply Hx);conv=>whnf)
     exact ⟨r3, hm, O.ext, fun h2 F => VLe.refl _ _⟩
    ·replace hm := hm.2 hc
     apply Cs;((conv=>whnf);repeat (first|apply Cs|apply Hs|apply Hx);conv=>whnf)
     exact ⟨2, hm, O.ext, fun h2 F => VLe.refl _ _⟩
def logic_Tri_wp (p0 : Nat) (p1 : Nat) (K : Nat → Prop) : Prop :=
  ((eqN p0 0) = true → K 3) ∧ ((eqN p0 0) = false → ((eqN p0 1) = true → logic_Read_wp p1 (fun r1 => K r1)) ∧ ((eqN p0 1) = false → K 2))
theorem logic_Tri_walk {p0 : Nat} {p1 : Nat} {K : Nat → Prop} (hm : logic_Tri_wp p0 p1 K) {h0 : Heap} (hB : HasB vars h0) : ∃ r, K r ∧ CallD Tryd.prog NG 51 ⟨[n8 p0, n8 p1]⟩ h0 (n8 r) h0 := by
  unfold logic_Tri_wp at hm
  refine fnW hM Tryd.func51 rfl (hP _ _ rfl Tryd.func51) (Nat.le_of_ble_eq_true rfl) hB (enc := n8) (fun r => PureV.flat rfl) fun O => ?_; conv=>whnf
  apply Cs;((conv=>whnf);repeat (first|apply Cs|apply Hs|apply Hx);conv=>whnf)
  refine ⟨_, rfl, fun hc => ?_, fun hc => ?_⟩
  ·replace hm := hm.1 hc
   apply Cs;((conv=>whnf);repeat (first|apply Cs|apply Hs|apply Hx);conv=>whnf)
   exact ⟨3, hm, O.ext, fun h2 F => VLe.refl _ _⟩
  ·replace hm := hm.2 hc
   apply Cs;((conv=>whnf);repeat (first|apply Cs|apply Hs|apply Hx);conv=>whnf)
   refine ⟨_, rfl, fun hc => ?_, fun hc => ?_⟩
   ·replace hm := hm.1 hc
    apply Cs;((conv=>whnf);repeat (first|apply Cs|apply Hs|apply Hx);conv=>whnf)
    obtain ⟨r1, hm, hcall⟩ := logic_Read_walk hm O.has
    refine ⟨_, _, hcall, ?_⟩; ((conv=>whnf);repeat (first|apply Cs|apply Hs|apply Hx);conv=>whnf)
    exact ⟨r1, hm, O.ext, fun h2 F => VLe.refl _ _⟩
   ·replace hm := hm.2 hc
    apply Cs;((conv=>whnf);repeat (first|apply Cs|apply Hs|apply Hx);conv=>whnf)
    exact ⟨2, hm, O.ext, fun h2 F => VLe.refl _ _⟩
def logic_Conflict_wp (p0 : (List Nat)) (K : Bool → Prop) : Prop :=
  sl_ContainsV_wp p0 0 (fun r1 => (r1 = true → sl_ContainsV_wp p0 1 (fun r2 => K r2)) ∧ (r1 = false → K false))
theorem logic_Conflict_walk {p0 : (List Nat)} {K : Bool → Prop} (hm : logic_Conflict_wp p0 K) {h0 : Heap} (hB : HasB vars h0) : ∃ r, K r ∧ CallD Tryd.prog NG 67 ⟨[(encL 1 n8) p0]⟩ h0 (Value.bool r) h0 := by
  unfold logic_Conflict_wp at hm
  refine fnW hM Tryd.func67 rfl (hP _ _ rfl Tryd.func67) (Nat.le_of_ble_eq_true rfl) hB (enc := Value.bool) (fun r => PureV.flat rfl) fun O => ?_; conv=>whnf
  apply Cs;((conv=>whnf);repeat (first|apply Cs|apply Hs|apply Hx);conv=>whnf)
  obtain ⟨r1, hm, hcall⟩ := sl_ContainsV_walk hm O.has
  refine ⟨_, _, hcall, ?_⟩; ((conv=>whnf);repeat (first|apply Hs|apply Hx);conv=>whnf)
  refine ⟨_, rfl, fun hc => ?_, fun hc => ?_⟩
  ·replace hm := hm.1 hc; ((conv=>whnf);repeat (first|apply Hs|apply Hx);conv=>whnf)
   obtain ⟨r2, hm, hcall⟩ := sl_ContainsV_walk hm O.has
   refine ⟨_, _, hcall, ?_⟩; ((conv=>whnf);repeat (first|apply Cs|apply Hs|apply Hx);conv=>whnf)
   exact ⟨r2, hm, O.ext, fun h2 F => VLe.refl _ _⟩
  ·replace hm := hm.2 hc; ((conv=>whnf);repeat (first|apply Cs|apply Hs|apply Hx);conv=>whnf)
   exact ⟨false, hm, O.ext, fun h2 F => VLe.refl _ _⟩
def logic_Bus_wp (p0 : (List Nat)) (K : Nat → Prop) : Prop :=
  if_driven_wp p0 (fun r1 => ((ltI r1 (Int.ofNat 0)) = true → K 3) ∧ ((ltI r1 (Int.ofNat 0)) = false → joinW (α := Bool) (fun k3 => logic_Conflict_wp p0 (fun r4 => (r4 = true → k3 true) ∧ (r4 = false → cf_unknown_wp p0 (fun r5 => k3 r5)))) (fun v2 => (v2 = true → K 2) ∧ (v2 = false → ∃ j7 : Nat, r1 = Int.ofNat j7 ∧ ∃ x6, p0[j7]? = some x6 ∧ K x6))))
theorem logic_Bus_walk {p0 : (List Nat)} {K : Nat → Prop} (hm : logic_Bus_wp p0 K) {h0 : Heap} (hB : HasB vars h0) : ∃ r, K r ∧ CallD Tryd.prog NG 52 ⟨[(encL 1 n8) p0]⟩ h0 (n8 r) h0 := by
  unfold logic_Bus_wp at hm
  refine fnW hM Tryd.func52 rfl (hP _ _ rfl Tryd.func52) (Nat.le_of_ble_eq_true rfl) hB (enc := n8) (fun r => PureV.flat rfl) fun O => ?_; conv=>whnf
  apply Cs;((conv=>whnf);repeat (first|apply Cs|apply Hs|apply Hx);conv=>whnf)
  obtain ⟨r1, hm, hcall⟩ := if_driven_walk hm O.has
  refine ⟨_, _, hcall, ?_⟩; ((conv=>whnf);repeat (first|apply Cs|apply Hs|apply Hx);conv=>whnf)
  refine ⟨_, rfl, fun hc => ?_, fun hc => ?_⟩
  ·replace hm := hm.1 hc
   apply Cs;((conv=>whnf);repeat (first|apply Cs|apply Hs|apply Hx);conv=>whnf)
   exact ⟨3, hm, O.ext, fun h2 F => VLe.refl _ _⟩
  ·replace hm := hm.2 hc
   refine CodeS.joinWS hm (nn := 24) (σ := Bool × Unit) (fun s => s.1) (fun (v2, _) h => Own vars h0 [] h ∧ True) (fun (v2, _) => [(0, ((encL 1 n8) p0)), (5, (z64 r1)), (12, (.bool v2))]) rfl (fun hm' => ?_) ?_
   ·replace hm := hm'
    apply Cs;((conv=>whnf);repeat (first|apply Cs|apply Hs|apply Hx);conv=>whnf)
    obtain ⟨r4, hm, hcall⟩ := logic_Conflict_walk hm O.has
    refine ⟨_, _, hcall, ?_⟩; ((conv=>whnf);repeat (first|apply Hs|apply Hx);conv=>whnf)
    refine ⟨_, rfl, fun hc => ?_, fun hc => ?_⟩
    ·replace hm := hm.1 hc; ((conv=>whnf);repeat (first|apply Hs|apply Hx);conv=>whnf)
     exact ⟨(true, ()), hm, ⟨O, trivial⟩, VLe.refl _ _, VLe.refl _ _, VLe.refl _ _, trivial⟩
    ·replace hm := hm.2 hc; ((conv=>whnf);repeat (first|apply Hs|apply Hx);conv=>whnf)
     obtain ⟨r5, hm, hcall⟩ := cf_unknown_walk hm O.has
     refine ⟨_, _, hcall, ?_⟩; ((conv=>whnf);repeat (first|apply Hs|apply Hx);conv=>whnf)
     exact ⟨(r5, ()), hm, ⟨O, trivial⟩, VLe.refl _ _, VLe.refl _ _, VLe.refl _ _, trivial⟩
   ·clear hm; rintro ⟨v2, _⟩ base h hm ⟨O, _⟩
    ((conv=>whnf);repeat (first|apply Cs|apply Hs|apply Hx);conv=>whnf)
    refine ⟨_, rfl, fun hc => ?_, fun hc => ?_⟩
    ·replace hm := hm.1 hc
     apply Cs;((conv=>whnf);repeat (first|apply Cs|apply Hs|apply Hx);conv=>whnf)
     exact ⟨2, hm, O.ext, fun h2 F => VLe.refl _ _⟩
    ·replace hm := hm.2 hc
     apply Cs;((conv=>whnf);repeat (first|apply Cs|apply Hs|apply Hx);conv=>whnf)
     obtain ⟨j7, hz, x6, hx6, hm⟩ := hm
     refine flAtM (s := 1) (enc := n8) (j := j7) rfl rfl rfl (congrArg (Value.int .i64) hz) hx6 ?_; ((conv=>whnf);repeat (first|apply Hs|apply Hx);conv=>whnf)
     refine ⟨_, (rfl : aread _ _ _ _ = some _), ?_⟩; ((conv=>whnf);repeat (first|apply Cs|apply Hs|apply Hx);conv=>whnf)
     exact ⟨x6, hm, O.ext, fun h2 F => VLe.refl _ _⟩
def logic_Eval_wp (p0 : Nat) (p1 : (List Nat)) (K : Nat → Prop) : Prop :=
  logic_Fanin_wp p0 (fun r1 => joinW (α := Bool) (fun k3 => ((ltN p1.length r1.1) = true → k3 true) ∧ ((ltN p1.length r1.1) = false → k3 (ltI r1.2 (Int.ofNat p1.length)))) (fun v2 => (v2 = true → K 2) ∧ (v2 = false → ((eqN p0 1) = true → K 0) ∧ ((eqN p0 1) = false → ((eqN p0 2) = true → K 1) ∧ ((eqN p0 2) = false → ((eqN p0 3) = true → ∃ x4, p1[0]? = some x4 ∧ logic_Read_wp x4 (fun r5 => K r5)) ∧ ((eqN p0 3) = false → ((eqN p0 4) = true → ∃ x6, p1[0]? = some x6 ∧ logic_Not_wp x6 (fun r7 => K r7)) ∧ ((eqN p0 4) = false → ((eqN p0 5) = true → logic_And_wp p1 (fun r8 => K r8)) ∧ ((eqN p0 5) = false → ((eqN p0 6) = true → logic_And_wp p1 (fun r9 => logic_Not_wp r9 (fun r10 => K r10))) ∧ ((eqN p0 6) = false → ((eqN p0 7) = true → logic_Or_wp p1 (fun r11 => K r11)) ∧ ((eqN p0 7) = false → ((eqN p0 8) = true → logic_Or_wp p1 (fun r12 => logic_Not_wp r12 (fun r13 => K r13))) ∧ ((eqN p0 8) = false → ((eqN p0 9) = true → logic_Xor_wp p1 (fun r14 => K r14)) ∧ ((eqN p0 9) = false → ((eqN p0 10) = true → logic_Xor_wp p1 (fun r15 => logic_Not_wp r15 (fun r16 => K r16))) ∧ ((eqN p0 10) = false → ((eqN p0 11) = true → ∃ x17, p1[0]? = some x17 ∧ ∃ x18, p1[1]? = some x18 ∧ ∃ x19, p1[2]? = some x19 ∧ logic_Mux_wp x17 x18 x19 (fun r20 => K r20)) ∧ ((eqN p0 11) = false → ((eqN p0 12) = true → ∃ x21, p1[0]? = some x21 ∧ ∃ x22, p1[1]? = some x22 ∧ logic_Tri_wp x21 x22 (fun r23 => K r23)) ∧ ((eqN p0 12) = false → ((eqN p0 13) = true → logic_Bus_wp p1 (fun r24 => K r24)) ∧ ((eqN p0 13) = false → K 2))))))))))))))))
theorem logic_Eval_walk {p0 : Nat} {p1 : (List Nat)} {K : Nat → Prop} (hm : logic_Eval_wp p0 p1 K) {h0 : Heap} (hB : HasB vars h0) : ∃ r, K r ∧ CallD Tryd.prog NG 32 ⟨[n8 p0, (encL 1 n8) p1]⟩ h0 (n8 r) h0 := by
  unfold logic_Eval_wp at hm
  refine fnW hM Tryd.func32 rfl (hP _ _ rfl Tryd.func32) (Nat.le_of_ble_eq_true rfl) hB (enc := n8) (fun r => PureV.flat rfl) fun O => ?_; conv=>whnf
  apply Cs;((conv=>whnf);repeat (first|apply Cs|apply Hs|apply Hx);conv=>whnf)
  obtain ⟨r1, hm, hcall⟩ := logic_Fanin_walk hm O.has
  refine ⟨_, _, hcall, ?_⟩; ((conv=>whnf);repeat (first|apply Hs|apply Hx);conv=>whnf)
  refine CodeS.joinWS hm (nn := 91) (σ := Bool × Unit) (fun s => s.1) (fun (v2, _) h => Own vars h0 [] h ∧ True) (fun (v2, _) => [(0, (n8 p0)), (1, ((encL 1 n8) p1)), (21, (.bool v2))]) rfl (fun hm' => ?_) ?_
  ·replace hm := hm'
   apply Cs;((conv=>whnf);repeat (first|apply Cs|apply Hs|apply Hx);conv=>whnf)
   refine lenM (s := 1) (enc := n8) (l := p1) rfl rfl ?_; ((conv=>whnf);repeat (first|apply Hs|apply Hx);conv=>whnf)
   refine ⟨_, rfl, fun hc => ?_, fun hc => ?_⟩
   ·replace hm := hm.1 hc; ((conv=>whnf);repeat (first|apply Hs|apply Hx);conv=>whnf)
    exact ⟨(true, ()), hm, ⟨O, trivial⟩, VLe.refl _ _, VLe.refl _ _, VLe.refl _ _, trivial⟩
   ·replace hm := hm.2 hc; ((conv=>whnf);repeat (first|apply Hs|apply Hx);conv=>whnf)
    refine lenM (s := 1) (enc := n8) (l := p1) rfl rfl ?_; ((conv=>whnf);repeat (first|apply Hs|apply Hx);conv=>whnf)
    exact ⟨((ltI r1.2 (Int.ofNat p1.length)), ()), hm, ⟨O, trivial⟩, VLe.refl _ _, VLe.refl _ _, VLe.refl _ _, trivial⟩
  ·clear hm; rintro ⟨v2, _⟩ base h hm ⟨O, _⟩
   ((conv=>whnf);repeat (first|apply Cs|apply Hs|apply Hx);conv=>whnf)
   refine ⟨_, rfl, fun hc => ?_, fun hc => ?_⟩
   ·replace hm := hm.1 hc
    apply Cs;((conv=>whnf);repeat (first|apply Cs|apply Hs|apply Hx);conv=>whnf)
    exact ⟨2, hm, O.ext, fun h2 F => VLe.refl _ _⟩
   ·replace hm := hm.2 hc
    apply Cs;((conv=>whnf);repeat (first|apply Cs|apply Hs|apply Hx);conv=>whnf)
    refine ⟨_, rfl, fun hc => ?_, fun hc => ?_⟩
    ·replace hm := hm.1 hc
     apply Cs;((conv=>whnf);repeat (first|apply Cs|apply Hs|apply Hx);conv=>whnf)
     exact ⟨0, hm, O.ext, fun h2 F => VLe.refl _ _⟩
    ·replace hm := hm.2 hc
     apply Cs;((conv=>whnf);repeat (first|apply Cs|apply Hs|apply Hx);conv=>whnf)
     refine ⟨_, rfl, fun hc => ?_, fun hc => ?_⟩
     ·replace hm := hm.1 hc
      apply Cs;((conv=>whnf);repeat (first|apply Cs|apply Hs|apply Hx);conv=>whnf)
      exact ⟨1, hm, O.ext, fun h2 F => VLe.refl _ _⟩
     ·replace hm := hm.2 hc
      apply Cs;((conv=>whnf);repeat (first|apply Cs|apply Hs|apply Hx);conv=>whnf)
      refine ⟨_, rfl, fun hc => ?_, fun hc => ?_⟩
      ·replace hm := hm.1 hc
       apply Cs;((conv=>whnf);repeat (first|apply Cs|apply Hs|apply Hx);conv=>whnf)
       obtain ⟨x4, hx4, hm⟩ := hm
       refine flAtM (s := 1) (enc := n8) (j := 0) rfl rfl rfl rfl hx4 ?_; ((conv=>whnf);repeat (first|apply Hs|apply Hx);conv=>whnf)
       refine ⟨_, (rfl : aread _ _ _ _ = some _), ?_⟩; ((conv=>whnf);repeat (first|apply Hs|apply Hx);conv=>whnf)
       obtain ⟨r5, hm, hcall⟩ := logic_Read_walk hm O.has
       refine ⟨_, _, hcall, ?_⟩; ((conv=>whnf);repeat (first|apply Cs|apply Hs|apply Hx);conv=>whnf)
       exact ⟨r5, hm, O.ext, fun h2 F => VLe.refl _ _⟩
      ·replace hm := hm.2 hc
       apply Cs;((conv=>whnf);repeat (first|apply Cs|apply Hs|apply Hx);conv=>whnf)
       refine ⟨_, rfl, fun hc => ?_, fun hc => ?_⟩
       ·replace hm := hm.1 hc
        apply Cs;((conv=>whnf);repeat (first|apply Cs|apply Hs|apply Hx);conv=>whnf)
        obtain ⟨x6, hx6, hm⟩ := hm
        refine flAtM (s := 1) (enc := n8) (j := 0) rfl rfl rfl rfl hx6 ?_; ((conv=>whnf);repeat (first|apply Hs|apply Hx);conv=>whnf)
        refine ⟨_, (rfl : aread _ _ _ _ = some _), ?_⟩; ((conv=>whnf);repeat (first|apply Hs|apply Hx);conv=>whnf)
        obtain ⟨r7, hm, hcall⟩ := logic_Not_walk hm O.has
        refine ⟨_, _, hcall, ?_⟩; ((conv=>whnf);repeat (first|apply Cs|apply Hs|apply Hx);conv=>whnf)
        exact ⟨r7, hm, O.ext, fun h2 F => VLe.refl _ _⟩
       ·replace hm := hm.2 hc
        apply Cs;((conv=>whnf);repeat (first|apply Cs|apply Hs|apply Hx);conv=>whnf)
        refine ⟨_, rfl, fun hc => ?_, fun hc => ?_⟩
        ·replace hm := hm.1 hc
         apply Cs;((conv=>whnf);repeat (first|apply Cs|apply Hs|apply Hx);conv=>whnf)
         obtain ⟨r8, hm, hcall⟩ := logic_And_walk hm O.has
         refine ⟨_, _, hcall, ?_⟩; ((conv=>whnf);repeat (first|apply Cs|apply Hs|apply Hx);conv=>whnf)
         exact ⟨r8, hm, O.ext, fun h2 F => VLe.refl _ _⟩
        ·replace hm := hm.2 hc
         apply Cs;((conv=>whnf);repeat (first|apply Cs|apply Hs|apply Hx);conv=>whnf)
         refine ⟨_, rfl, fun hc => ?_, fun hc => ?_⟩
         ·replace hm := hm.1 hc
          apply Cs;((conv=>whnf);repeat (first|apply Cs|apply Hs|apply Hx);conv=>whnf)
          obtain ⟨r9, hm, hcall⟩ := logic_And_walk hm O.has
          refine ⟨_, _, hcall, ?_⟩; ((conv=>whnf);repeat (first|apply Hs|apply Hx);conv=>whnf)
          obtain ⟨r10, hm, hcall⟩ := logic_Not_walk hm O.has
          refine ⟨_, _, hcall, ?_⟩; ((conv=>whnf);repeat (first|apply Cs|apply Hs|apply Hx);conv=>whnf)
          exact ⟨r10, hm, O.ext, fun h2 F => VLe.refl _ _⟩
         ·replace hm := hm.2 hc
          apply Cs;((conv=>whnf);repeat (first|apply Cs|apply Hs|apply Hx);conv=>whnf)
          refine ⟨_, rfl, fun hc => ?_, fun hc => ?_⟩
          ·replace hm := hm.1 hc
           apply Cs;((conv=>whnf);repeat (first|apply Cs|apply Hs|apply Hx);conv=>whnf)
           obtain ⟨r11, hm, hcall⟩ := logic_Or_walk hm O.has
           refine ⟨_, _, hcall, ?_⟩; ((conv=>whnf);repeat (first|apply Cs|apply Hs|apply Hx);conv=>whnf)
           exact ⟨r11, hm, O.ext, fun h2 F => VLe.refl _ _⟩
          ·replace hm := hm.2 hc
           apply Cs;((conv=>whnf);repeat (first|apply Cs|apply Hs|apply Hx);conv=>whnf)
           refine ⟨_, rfl, fun hc => ?_, fun hc => ?_⟩
           ·replace hm := hm.1 hc
            apply Cs;((conv=>whnf);repeat (first|apply Cs|apply Hs|apply Hx);conv=>whnf)
            obtain ⟨r12, hm, hcall⟩ := logic_Or_walk hm O.has
            refine ⟨_, _, hcall, ?_⟩; ((conv=>whnf);repeat (first|apply Hs|apply Hx);conv=>whnf)
            obtain ⟨r13, hm, hcall⟩ := logic_Not_walk hm O.has
            refine ⟨_, _, hcall, ?_⟩; ((conv=>whnf);repeat (first|apply Cs|apply Hs|apply Hx);conv=>whnf)
            exact ⟨r13, hm, O.ext, fun h2 F => VLe.refl _ _⟩
           ·replace hm := hm.2 hc
            apply Cs;((conv=>whnf);repeat (first|apply Cs|apply Hs|apply Hx);conv=>whnf)
            refine ⟨_, rfl, fun hc => ?_, fun hc => ?_⟩
            ·replace hm := hm.1 hc
             apply Cs;((conv=>whnf);repeat (first|apply Cs|apply Hs|apply Hx);conv=>whnf)
             obtain ⟨r14, hm, hcall⟩ := logic_Xor_walk hm O.has
             refine ⟨_, _, hcall, ?_⟩; ((conv=>whnf);repeat (first|apply Cs|apply Hs|apply Hx);conv=>whnf)
             exact ⟨r14, hm, O.ext, fun h2 F => VLe.refl _ _⟩
            ·replace hm := hm.2 hc
             apply Cs;((conv=>whnf);repeat (first|apply Cs|apply Hs|apply Hx);conv=>whnf)
             refine ⟨_, rfl, fun hc => ?_, fun hc => ?_⟩
             ·replace hm := hm.1 hc
              apply Cs;((conv=>whnf);repeat (first|apply Cs|apply Hs|apply Hx);conv=>whnf)
              obtain ⟨r15, hm, hcall⟩ := logic_Xor_walk hm O.has
              refine ⟨_, _, hcall, ?_⟩; ((conv=>whnf);repeat (first|apply Hs|apply Hx);conv=>whnf)
              obtain ⟨r16, hm, hcall⟩ := logic_Not_walk hm O.has
              refine ⟨_, _, hcall, ?_⟩; ((conv=>whnf);repeat (first|apply Cs|apply Hs|apply Hx);conv=>whnf)
              exact ⟨r16, hm, O.ext, fun h2 F => VLe.refl _ _⟩
             ·replace hm := hm.2 hc
              apply Cs;((conv=>whnf);repeat (first|apply Cs|apply Hs|apply Hx);conv=>whnf)
              refine ⟨_, rfl, fun hc => ?_, fun hc => ?_⟩
              ·replace hm := hm.1 hc
               apply Cs;((conv=>whnf);repeat (first|apply Cs|apply Hs|apply Hx);conv=>whnf)
               obtain ⟨x17, hx17, hm⟩ := hm
               refine flAtM (s := 1) (enc := n8) (j := 0) rfl rfl rfl rfl hx17 ?_; ((conv=>whnf);repeat (first|apply Hs|apply Hx);conv=>whnf)
               refine ⟨_, (rfl : aread _ _ _ _ = some _), ?_⟩; ((conv=>whnf);repeat (first|apply Hs|apply Hx);conv=>whnf)
               refine ⟨.inl rfl, ?_⟩; ((conv=>whnf);repeat (first|apply Hs|apply Hx);conv=>whnf)
               obtain ⟨x18, hx18, hm⟩ := hm
               refine flAtM (s := 1) (enc := n8) (j := 1) rfl rfl rfl rfl hx18 ?_; ((conv=>whnf);repeat (first|apply Hs|apply Hx);conv=>whnf)
               refine ⟨_, (rfl : aread _ _ _ _ = some _), ?_⟩; ((conv=>whnf);repeat (first|apply Hs|apply Hx);conv=>whnf)
               refine ⟨.inl rfl, ?_⟩; ((conv=>whnf);repeat (first|apply Hs|apply Hx);conv=>whnf)
               obtain ⟨x19, hx19, hm⟩ := hm
               refine flAtM (s := 1) (enc := n8) (j := 2) rfl rfl rfl rfl hx19 ?_; ((conv=>whnf);repeat (first|apply Hs|apply Hx);conv=>whnf)
               refine ⟨_, (rfl : aread _ _ _ _ = some _), ?_⟩; ((conv=>whnf);repeat (first|apply Hs|apply Hx);conv=>whnf)
               refine ⟨.inl rfl, ?_⟩; ((conv=>whnf);repeat (first|apply Hs|apply Hx);conv=>whnf)
               obtain ⟨r20, hm, hcall⟩ := logic_Mux_walk hm O.has
               refine ⟨_, _, hcall, ?_⟩; ((conv=>whnf);repeat (first|apply Hs|apply Hx);conv=>whnf)
               refine ⟨.inl (Ext.refl _), ?_⟩; ((conv=>whnf);repeat (first|apply Hs|apply Hx);conv=>whnf)
               apply Cs;((conv=>whnf);repeat (first|apply Cs|apply Hs|apply Hx);conv=>whnf)
               exact ⟨r20, hm, O.ext, fun h2 F => VLe.refl _ _⟩
              ·replace hm := hm.2 hc
               apply Cs;((conv=>whnf);repeat (first|apply Cs|apply Hs|apply Hx);conv=>whnf)
               refine ⟨_, rfl, fun hc => ?_, fun hc => ?_⟩
               ·replace hm := hm.1 hc
                apply Cs;((conv=>whnf);repeat (first|apply Cs|apply Hs|apply Hx);conv=>whnf)
                obtain ⟨x21, hx21, hm⟩ := hm
                refine flAtM (s := 1) (enc := n8) (j := 0) rfl rfl rfl rfl hx21 ?_; ((conv=>whnf);repeat (first|apply Hs|apply Hx);conv=>whnf)
                refine ⟨_, (rfl : aread _ _ _ _ = some _), ?_⟩; ((conv=>whnf);repeat (first|apply Hs|apply Hx);conv=>whnf)
                refine ⟨.inl rfl, ?_⟩; ((conv=>whnf);repeat (first|apply Hs|apply Hx);conv=>whnf)
                obtain ⟨x22, hx22, hm⟩ := hm
                refine flAtM (s := 1) (enc := n8) (j := 1) rfl rfl rfl rfl hx22 ?_; ((conv=>whnf);repeat (first|apply Hs|apply Hx);conv=>whnf)
                refine ⟨_, (rfl : aread _ _ _ _ = some _), ?_⟩; ((conv=>whnf);repeat (first|apply Hs|apply Hx);conv=>whnf)
                refine ⟨.inl rfl, ?_⟩; ((conv=>whnf);repeat (first|apply Hs|apply Hx);conv=>whnf)
                obtain ⟨r23, hm, hcall⟩ := logic_Tri_walk hm O.has
                refine ⟨_, _, hcall, ?_⟩; ((conv=>whnf);repeat (first|apply Hs|apply Hx);conv=>whnf)
                refine ⟨.inl (Ext.refl _), ?_⟩; ((conv=>whnf);repeat (first|apply Hs|apply Hx);conv=>whnf)
                apply Cs;((conv=>whnf);repeat (first|apply Cs|apply Hs|apply Hx);conv=>whnf)
                exact ⟨r23, hm, O.ext, fun h2 F => VLe.refl _ _⟩
               ·replace hm := hm.2 hc
                apply Cs;((conv=>whnf);repeat (first|apply Cs|apply Hs|apply Hx);conv=>whnf)
                refine ⟨_, rfl, fun hc => ?_, fun hc => ?_⟩
                ·replace hm := hm.1 hc
                 apply Cs;((conv=>whnf);repeat (first|apply Cs|apply Hs|apply Hx);conv=>whnf)
                 obtain ⟨r24, hm, hcall⟩ := logic_Bus_walk hm O.has
                 refine ⟨_, _, hcall, ?_⟩; ((conv=>whnf);repeat (first|apply Cs|apply Hs|apply Hx);conv=>whnf)
                 exact ⟨r24, hm, O.ext, fun h2 F => VLe.refl _ _⟩
                ·replace hm := hm.2 hc
                 apply Cs;((conv=>whnf);repeat (first|apply Cs|apply Hs|apply Hx);conv=>whnf)
                 exact ⟨2, hm, O.ext, fun h2 F => VLe.refl _ _⟩
def sl_IndexK_wp (p0 : (List Nat)) (p1 : Nat) (K : Int → Prop) : Prop :=
  joinW (α := Unit) (fun k1 => loopW (S := Nat) (fun v2 nx3 => ((ltN v2 p0.length) = true → ∃ x4, p0[v2]? = some x4 ∧ ((eqN p1 x4) = true → K (Int.ofNat v2)) ∧ ((eqN p1 x4) = false → v2 + 1 < 2 ^ 63 ∧ nx3 (v2 + 1))) ∧ ((ltN v2 p0.length) = false → k1 ())) 0) (fun _ => K (Int.negSucc 0))
theorem sl_IndexK_walk {p0 : (List Nat)} {p1 : Nat} {K : Int → Prop} (hm : sl_IndexK_wp p0 p1 K) {h0 : Heap} (hB : HasB vars h0) : ∃ r, K r ∧ CallD Tryd.prog NG 41 ⟨[(encL 1 n8) p0, n8 p1]⟩ h0 (z64 r) h0 := by
  unfold sl_IndexK_wp at hm
  refine fnW hM Tryd.func41 rfl (hP _ _ rfl Tryd.func41) (Nat.le_of_ble_eq_true rfl) hB (enc := z64) (fun r => PureV.flat rfl) fun O => ?_; conv=>whnf
  apply Cs;conv=>whnf
  apply Cs;((conv=>whnf);repeat (first|apply Hs|apply Hx);conv=>whnf)
  refine CodeS.joinWS hm (nn := 19) (σ := Unit × Unit) (fun s => s.1) (fun (_, _) h => Own vars h0 [] h ∧ True) (fun (_, _) => []) rfl (fun hm' => ?_) ?_
  ·replace hm := hm'
   apply Cs;((conv=>whnf);repeat (first|apply Cs|apply Hs|apply Hx);conv=>whnf)
   refine lenM (s := 1) (enc := n8) (l := p0) rfl rfl ?_; ((conv=>whnf);repeat (first|apply Cs|apply Hs|apply Hx);conv=>whnf)
   refine loopWK hM (by kernel_rfl) (nn := 19) (S := Nat) (σ := Nat × Unit) (fun s => s.1) (fun (v2, _) h => Own vars h0 [] h ∧ True) (fun (v2, _) => [(0, ((encL 1 n8) p0)), (1, (n8 p1)), (7, (i64 p0.length)), (8, (i64 v2))]) rfl (0, ()) hm ⟨O, trivial⟩ ⟨VLe.refl _ _, VLe.refl _ _, VLe.refl _ _, VLe.refl _ _, trivial⟩ ?_
   clear hm; rintro ⟨v2, _⟩ nx3 base h hm ⟨O, _⟩
   ((conv=>whnf);repeat (first|apply Cs|apply Hs|apply Hx);conv=>whnf)
   refine ⟨_, rfl, fun hc => ?_, fun hc => ?_⟩
   ·replace hm := hm.1 hc
    apply Cs;((conv=>whnf);repeat (first|apply Cs|apply Hs|apply Hx);conv=>whnf)
    obtain ⟨x4, hx4, hm⟩ := hm
    refine flAtM (s := 1) (enc := n8) (j := v2) rfl rfl rfl rfl hx4 ?_; ((conv=>whnf);repeat (first|apply Hs|apply Hx);conv=>whnf)
    refine ⟨_, (rfl : aread _ _ _ _ = some _), ?_⟩; ((conv=>whnf);repeat (first|apply Cs|apply Hs|apply Hx);conv=>whnf)
    refine ⟨_, rfl, fun hc => ?_, fun hc => ?_⟩
    ·replace hm := hm.1 hc
     apply Cs;((conv=>whnf);repeat (first|apply Cs|apply Hs|apply Hx);conv=>whnf)
     exact ⟨(Int.ofNat v2), hm, O.ext, fun h2 F => VLe.refl _ _⟩
    ·replace hm := hm.2 hc
     apply Cs;((conv=>whnf);repeat (first|apply Cs|apply Hs|apply Hx);conv=>whnf)
     refine ⟨_, addK (a := v2) (b := 1) rfl rfl hm.1, ?_⟩; ((conv=>whnf);repeat (first|apply Hs|apply Hx);conv=>whnf)
     replace hm := hm.2
     exact ⟨((v2 + 1), ()), hm, ⟨O, trivial⟩, VLe.refl _ _, VLe.refl _ _, VLe.refl _ _, VLe.refl _ _, trivial⟩
   ·replace hm := hm.2 hc
    apply Cs;((conv=>whnf);repeat (first|apply Cs|apply Hs|apply Hx);conv=>whnf)
    exact ⟨((), ()), hm, ⟨O, trivial⟩, trivial⟩
  ·clear hm; rintro ⟨_, _⟩ base h hm ⟨O, _⟩
   ((conv=>whnf);repeat (first|apply Cs|apply Hs|apply Hx);conv=>whnf)
   exact ⟨(Int.negSucc 0), hm, O.ext, fun h2 F => VLe.refl _ _⟩
def sl_ContainsK_wp (p0 : (List Nat)) (p1 : Nat) (K : Bool → Prop) : Prop :=
  sl_IndexK_wp p0 p1 (fun r1 => K (!ltI r1 (Int.ofNat 0)))
theorem sl_ContainsK_walk {p0 : (List Nat)} {p1 : Nat} {K : Bool → Prop} (hm : sl_ContainsK_wp p0 p1 K) {h0 : Heap} (hB : HasB vars h0) : ∃ r, K r ∧ CallD Tryd.prog NG 23 ⟨[(encL 1 n8) p0, n8 p1]⟩ h0 (Value.bool r) h0 := by
  unfold sl_ContainsK_wp at hm
  refine fnW hM Tryd.func23 rfl (hP _ _ rfl Tryd.func23) (Nat.le_of_ble_eq_true rfl) hB (enc := Value.bool) (fun r => PureV.flat rfl) fun O => ?_; conv=>whnf
  apply Cs;((conv=>whnf);repeat (first|apply Cs|apply Hs|apply Hx);conv=>whnf)
  obtain ⟨r1, hm, hcall⟩ := sl_IndexK_walk hm O.has
  refine ⟨_, _, hcall, ?_⟩; ((conv=>whnf);repeat (first|apply Cs|apply Hs|apply Hx);conv=>whnf)
  exact ⟨(!ltI r1 (Int.ofNat 0)), hm, O.ext, fun h2 F => VLe.refl _ _⟩
def cf_outsideI_wp (p0 : (List Nat)) (c : Circ) (K : Int → Prop) : Prop :=
  joinW (α := Unit) (fun k1 => loopW (S := Nat) (fun v2 nx3 => ((ltN v2 p0.length) = true → ∃ x4, p0[v2]? = some x4 ∧ ((ltN x4 0) = true → K (Int.ofNat v2)) ∧ ((ltN x4 0) = false → ((!ltN x4 c.nodes.length) = true → K (Int.ofNat v2)) ∧ ((!ltN x4 c.nodes.length) = false → v2 + 1 < 2 ^ 63 ∧ nx3 (v2 + 1)))) ∧ ((ltN v2 p0.length) = false → k1 ())) 0) (fun _ => K (Int.negSucc 0))
theorem cf_outsideI_walk {p0 : (List Nat)} {c : Circ} {K : Int → Prop} (hm : cf_outsideI_wp p0 c K) {h0 : Heap} (hB : HasB vars h0) : ∃ r, K r ∧ CallD Tryd.prog NG 79 ⟨[(encL 1 i64) p0, (.func (.func 63) ⟨[]⟩ ⟨[(FP (encCirc c))]⟩)]⟩ h0 (z64 r) h0 := by
  unfold cf_outsideI_wp at hm
  refine fnW hM Tryd.func79 rfl (hP _ _ rfl Tryd.func79) (Nat.le_of_ble_eq_true rfl) hB (enc := z64) (fun r => PureV.flat rfl) fun O => ?_; conv=>whnf
  apply Cs;conv=>whnf
  apply Cs;((conv=>whnf);repeat (first|apply Hs|apply Hx);conv=>whnf)
  refine CodeS.joinWS hm (nn := 19) (σ := Unit × Unit) (fun s => s.1) (fun (_, _) h => Own vars h0 [] h ∧ True) (fun (_, _) => []) rfl (fun hm' => ?_) ?_
  ·replace hm := hm'
   apply Cs;((conv=>whnf);repeat (first|apply Cs|apply Hs|apply Hx);conv=>whnf)
   refine lenM (s := 1) (enc := i64) (l := p0) rfl rfl ?_; ((conv=>whnf);repeat (first|apply Cs|apply Hs|apply Hx);conv=>whnf)
   refine loopWK hM (by kernel_rfl) (nn := 19) (S := Nat) (σ := Nat × Unit) (fun s => s.1) (fun (v2, _) h => Own vars h0 [] h ∧ True) (fun (v2, _) => [(0, ((encL 1 i64) p0)), (1, (.func (.func 63) ⟨[]⟩ ⟨[(FP (encCirc c))]⟩)), (7, (i64 p0.length)), (8, (i64 v2))]) rfl (0, ()) hm ⟨O, trivial⟩ ⟨VLe.refl _ _, VLe.refl _ _, VLe.refl _ _, VLe.refl _ _, trivial⟩ ?_
   clear hm; rintro ⟨v2, _⟩ nx3 base h hm ⟨O, _⟩
   ((conv=>whnf);repeat (first|apply Cs|apply Hs|apply Hx);conv=>whnf)
   refine ⟨_, rfl, fun hc => ?_, fun hc => ?_⟩
   ·replace hm := hm.1 hc
    apply Cs;((conv=>whnf);repeat (first|apply Cs|apply Hs|apply Hx);conv=>whnf)
    obtain ⟨x4, hx4, hm⟩ := hm
    refine flAtM (s := 1) (enc := i64) (j := v2) rfl rfl rfl rfl hx4 ?_; ((conv=>whnf);repeat (first|apply Hs|apply Hx);conv=>whnf)
    refine ⟨_, (rfl : aread _ _ _ _ = some _), ?_⟩; ((conv=>whnf);repeat (first|apply Hs|apply Hx);conv=>whnf)
    refine fnG hM Tryd.func63 rfl (hP _ _ rfl Tryd.func63) (Nat.le_of_ble_eq_true rfl) ?_; ((conv=>whnf);repeat (first|apply Cs|apply Hs|apply Hx);conv=>whnf)
    refine ⟨_, rfl, fun hc => ?_, fun hc => ?_⟩
    ·replace hm := hm.1 hc; ((conv=>whnf);repeat (first|apply Cs|apply Hs|apply Hx);conv=>whnf)
     refine ⟨true, rfl, fun _ => ?_, (fun hc => nomatch hc)⟩
     apply Cs;((conv=>whnf);repeat (first|apply Cs|apply Hs|apply Hx);conv=>whnf)
     exact ⟨(Int.ofNat v2), hm, O.ext, fun h2 F => VLe.refl _ _⟩
    ·replace hm := hm.2 hc; ((conv=>whnf);repeat (first|apply Hs|apply Hx);conv=>whnf)
     refine ⟨_, (rfl : aread _ _ _ _ = some _), ?_⟩; ((conv=>whnf);repeat (first|apply Hs|apply Hx);conv=>whnf)
     refine lenM (s := 4) (enc := encNode) (l := c.nodes) rfl rfl ?_; ((conv=>whnf);repeat (first|apply Cs|apply Hs|apply Hx);conv=>whnf)
     refine ⟨_, rfl, fun hc => ?_, fun hc => ?_⟩
     ·replace hm := hm.1 hc
      apply Cs;((conv=>whnf);repeat (first|apply Cs|apply Hs|apply Hx);conv=>whnf)
      exact ⟨(Int.ofNat v2), hm, O.ext, fun h2 F => VLe.refl _ _⟩
     ·replace hm := hm.2 hc
      apply Cs;((conv=>whnf);repeat (first|apply Cs|apply Hs|apply Hx);conv=>whnf)
      refine ⟨_, addK (a := v2) (b := 1) rfl rfl hm.1, ?_⟩; ((conv=>whnf);repeat (first|apply Hs|apply Hx);conv=>whnf)
      replace hm := hm.2
      exact ⟨((v2 + 1), ()), hm, ⟨O, trivial⟩, VLe.refl _ _, VLe.refl _ _, VLe.refl _ _, VLe.refl _ _, trivial⟩
   ·replace hm := hm.2 hc
    apply Cs;((conv=>whnf);repeat (first|apply Cs|apply Hs|apply Hx);conv=>whnf)
    exact ⟨((), ()), hm, ⟨O, trivial⟩, trivial⟩
  ·clear hm; rintro ⟨_, _⟩ base h hm ⟨O, _⟩
   ((conv=>whnf);repeat (first|apply Cs|apply Hs|apply Hx);conv=>whnf)
   exact ⟨(Int.negSucc 0), hm, O.ext, fun h2 F => VLe.refl _ _⟩
def cf_outside_wp (p0 : (List Nat)) (c : Circ) (K : Bool → Prop) : Prop :=
  cf_outsideI_wp p0 c (fun r1 => K (!ltI r1 (Int.ofNat 0)))
theorem cf_outside_walk {p0 : (List Nat)} {c : Circ} {K : Bool → Prop} (hm : cf_outside_wp p0 c K) {h0 : Heap} (hB : HasB vars h0) : ∃ r, K r ∧ CallD Tryd.prog NG 62 ⟨[(encL 1 i64) p0, (.func (.func 63) ⟨[]⟩ ⟨[(FP (encCirc c))]⟩)]⟩ h0 (Value.bool r) h0 := by
  unfold cf_outside_wp at hm
  refine fnW hM Tryd.func62 rfl (hP _ _ rfl Tryd.func62) (Nat.le_of_ble_eq_true rfl) hB (enc := Value.bool) (fun r => PureV.flat rfl) fun O => ?_; conv=>whnf
  apply Cs;((conv=>whnf);repeat (first|apply Cs|apply Hs|apply Hx);conv=>whnf)
  obtain ⟨r1, hm, hcall⟩ := cf_outsideI_walk hm O.has
  refine ⟨_, _, hcall, ?_⟩; ((conv=>whnf);repeat (first|apply Cs|apply Hs|apply Hx);conv=>whnf)
  exact ⟨(!ltI r1 (Int.ofNat 0)), hm, O.ext, fun h2 F => VLe.refl _ _⟩
def cf_notTriI_wp (p0 : (List Nat)) (c : Circ) (K : Int → Prop) : Prop :=
  joinW (α := Unit) (fun k1 => loopW (S := Nat) (fun v2 nx3 => ((ltN v2 p0.length) = true → ∃ x4, p0[v2]? = some x4 ∧ ∃ x5, c.nodes[x4]? = some x5 ∧ ((neN x5.kind 12) = true → K (Int.ofNat v2)) ∧ ((neN x5.kind 12) = false → v2 + 1 < 2 ^ 63 ∧ nx3 (v2 + 1))) ∧ ((ltN v2 p0.length) = false → k1 ())) 0) (fun _ => K (Int.negSucc 0))
theorem cf_notTriI_walk {p0 : (List Nat)} {c : Circ} {K : Int → Prop} (hm : cf_notTriI_wp p0 c K) {h0 : Heap} (hB : HasB vars h0) : ∃ r, K r ∧ CallD Tryd.prog NG 79 ⟨[(encL 1 i64) p0, (.func (.func 75) ⟨[]⟩ ⟨[(FP (encCirc c))]⟩)]⟩ h0 (z64 r) h0 := by
  unfold cf_notTriI_wp at hm
  refine fnW hM Tryd.func79 rfl (hP _ _ rfl Tryd.func79) (Nat.le_of_ble_eq_true rfl) hB (enc := z64) (fun r => PureV.flat rfl) fun O => ?_; conv=>whnf
  apply Cs;conv=>whnf
  apply Cs;((conv=>whnf);repeat (first|apply Hs|apply Hx);conv=>whnf)
  refine CodeS.joinWS hm (nn := 19) (σ := Unit × Unit) (fun s => s.1) (fun (_, _) h => Own vars h0 [] h ∧ True) (fun (_, _) => []) rfl (fun hm' => ?_) ?_
  ·replace hm := hm'
   apply Cs;((conv=>whnf);repeat (first|apply Cs|apply Hs|apply Hx);conv=>whnf)
   refine lenM (s := 1) (enc := i64) (l := p0) rfl rfl ?_; ((conv=>whnf);repeat (first|apply Cs|apply Hs|apply Hx);conv=>whnf)
   refine loopWK hM (by kernel_rfl) (nn := 19) (S := Nat) (σ := Nat × Unit) (fun s => s.1) (fun (v2, _) h => Own vars h0 [] h ∧ True) (fun (v2, _) => [(0, ((encL 1 i64) p0)), (1, (.func (.func 75) ⟨[]⟩ ⟨[(FP (encCirc c))]⟩)), (7, (i64 p0.length)), (8, (i64 v2))]) rfl (0, ()) hm ⟨O, trivial⟩ ⟨VLe.refl _ _, VLe.refl _ _, VLe.refl _ _, VLe.refl _ _, trivial⟩ ?_
   clear hm; rintro ⟨v2, _⟩ nx3 base h hm ⟨O, _⟩
   ((conv=>whnf);repeat (first|apply Cs|apply Hs|apply Hx);conv=>whnf)
   refine ⟨_, rfl, fun hc => ?_, fun hc => ?_⟩
   ·replace hm := hm.1 hc
    apply Cs;((conv=>whnf);repeat (first|apply Cs|apply Hs|apply Hx);conv=>whnf)
    obtain ⟨x4, hx4, hm⟩ := hm
    refine flAtM (s := 1) (enc := i64) (j := v2) rfl rfl rfl rfl hx4 ?_; ((conv=>whnf);repeat (first|apply Hs|apply Hx);conv=>whnf)
    refine ⟨_, (rfl : aread _ _ _ _ = some _), ?_⟩; ((conv=>whnf);repeat (first|apply Hs|apply Hx);conv=>whnf)
    refine fnG hM Tryd.func75 rfl (hP _ _ rfl Tryd.func75) (Nat.le_of_ble_eq_true rfl) ?_; ((conv=>whnf);repeat (first|apply Cs|apply Hs|apply Hx);conv=>whnf)
    refine ⟨_, (rfl : aread _ _ _ _ = some _), ?_⟩; ((conv=>whnf);repeat (first|apply Hs|apply Hx);conv=>whnf)
    obtain ⟨x5, hx5, hm⟩ := hm
    refine flAtM (s := 4) (enc := encNode) (j := x4) rfl rfl rfl rfl hx5 ?_; ((conv=>whnf);repeat (first|apply Hs|apply Hx);conv=>whnf)
    refine ⟨_, (rfl : aread _ _ _ _ = some _), ?_⟩; ((conv=>whnf);repeat (first|apply Cs|apply Hs|apply Hx);conv=>whnf)
    refine ⟨_, rfl, fun hc => ?_, fun hc => ?_⟩
    ·replace hm := hm.1 hc
     apply Cs;((conv=>whnf);repeat (first|apply Cs|apply Hs|apply Hx);conv=>whnf)
     exact ⟨(Int.ofNat v2), hm, O.ext, fun h2 F => VLe.refl _ _⟩
    ·replace hm := hm.2 hc
     apply Cs;((conv=>whnf);repeat (first|apply Cs|apply Hs|apply Hx);conv=>whnf)
     refine ⟨_, addK (a := v2) (b := 1) rfl rfl hm.1, ?_⟩; ((conv=>whnf);repeat (first|apply Hs|apply Hx);conv=>whnf)
     replace hm := hm.2
     exact ⟨((v2 + 1), ()), hm, ⟨O, trivial⟩, VLe.refl _ _, VLe.refl _ _, VLe.refl _ _, VLe.refl _ _, trivial⟩
   ·replace hm := hm.2 hc
    apply Cs;((conv=>whnf);repeat (first|apply Cs|apply Hs|apply Hx);conv=>whnf)
    exact ⟨((), ()), hm, ⟨O, trivial⟩, trivial⟩
  ·clear hm; rintro ⟨_, _⟩ base h hm ⟨O, _⟩
   ((conv=>whnf);repeat (first|apply Cs|apply Hs|apply Hx);conv=>whnf)
   exact ⟨(Int.negSucc 0), hm, O.ext, fun h2 F => VLe.refl _ _⟩
def cf_notTri_wp (p0 : (List Nat)) (c : Circ) (K : Bool → Prop) : Prop :=
  cf_notTriI_wp p0 c (fun r1 => K (!ltI r1 (Int.ofNat 0)))
theorem cf_notTri_walk {p0 : (List Nat)} {c : Circ} {K : Bool → Prop} (hm : cf_notTri_wp p0 c K) {h0 : Heap} (hB : HasB vars h0) : ∃ r, K r ∧ CallD Tryd.prog NG 62 ⟨[(encL 1 i64) p0, (.func (.func 75) ⟨[]⟩ ⟨[(FP (encCirc c))]⟩)]⟩ h0 (Value.bool r) h0 := by
  unfold cf_notTri_wp at hm
  refine fnW hM Tryd.func62 rfl (hP _ _ rfl Tryd.func62) (Nat.le_of_ble_eq_true rfl) hB (enc := Value.bool) (fun r => PureV.flat rfl) fun O => ?_; conv=>whnf
  apply Cs;((conv=>whnf);repeat (first|apply Cs|apply Hs|apply Hx);conv=>whnf)
  obtain ⟨r1, hm, hcall⟩ := cf_notTriI_walk hm O.has
  refine ⟨_, _, hcall, ?_⟩; ((conv=>whnf);repeat (first|apply Cs|apply Hs|apply Hx);conv=>whnf)
  exact ⟨(!ltI r1 (Int.ofNat 0)), hm, O.ext, fun h2 F => VLe.refl _ _⟩
def netlists_Comb_wp (p0 : Nat) (K : Bool → Prop) : Prop :=
  ((!ltN p0 1) = true → K (!ltN 13 p0)) ∧ ((!ltN p0 1) = false → K false)
theorem netlists_Comb_walk {p0 : Nat} {K : Bool → Prop} (hm : netlists_Comb_wp p0 K) {h0 : Heap} (hB : HasB vars h0) : ∃ r, K r ∧ CallD Tryd.prog NG 40 ⟨[n8 p0]⟩ h0 (Value.bool r) h0 := by
  unfold netlists_Comb_wp at hm
  refine fnW hM Tryd.func40 rfl (hP _ _ rfl Tryd.func40) (Nat.le_of_ble_eq_true rfl) hB (enc := Value.bool) (fun r => PureV.flat rfl) fun O => ?_; conv=>whnf
  apply Cs;((conv=>whnf);repeat (first|apply Cs|apply Hs|apply Hx);conv=>whnf)
  refine ⟨_, rfl, fun hc => ?_, fun hc => ?_⟩
  ·replace hm := hm.1 hc; ((conv=>whnf);repeat (first|apply Cs|apply Hs|apply Hx);conv=>whnf)
   exact ⟨(!ltN 13 p0), hm, O.ext, fun h2 F => VLe.refl _ _⟩
  ·replace hm := hm.2 hc; ((conv=>whnf);repeat (first|apply Cs|apply Hs|apply Hx);conv=>whnf)
   exact ⟨false, hm, O.ext, fun h2 F => VLe.refl _ _⟩
def netlists_bit_wp (p0 : Circ) (p1 : Node) (K : Bool → Prop) : Prop :=
  ((neN p1.kind 15) = true → ((eqN p1.mem 0) = true → K (eqN p1.bit 0)) ∧ ((eqN p1.mem 0) = false → K false)) ∧ ((neN p1.kind 15) = false → ((!ltN p1.mem 0) = true → ((ltN p1.mem p0.mems.length) = true → ((!ltN p1.bit 0) = true → ∃ x1, p0.mems[p1.mem]? = some x1 ∧ K (ltN p1.bit x1.data.length)) ∧ ((!ltN p1.bit 0) = false → K false)) ∧ ((ltN p1.mem p0.mems.length) = false → K false)) ∧ ((!ltN p1.mem 0) = false → K false))
theorem netlists_bit_walk {p0 : Circ} {p1 : Node} {K : Bool → Prop} (hm : netlists_bit_wp p0 p1 K) {h0 : Heap} (hB : HasB vars h0) : ∃ r, K r ∧ CallD Tryd.prog NG 76 ⟨[encCirc p0, encNode p1]⟩ h0 (Value.bool r) h0 := by
  unfold netlists_bit_wp at hm
  refine fnW hM Tryd.func76 rfl (hP _ _ rfl Tryd.func76) (Nat.le_of_ble_eq_true rfl) hB (enc := Value.bool) (fun r => PureV.flat rfl) fun O => ?_; conv=>whnf
  apply Cs;((conv=>whnf);repeat (first|apply Cs|apply Hs|apply Hx);conv=>whnf)
  refine NewG.frz rfl ?_; ((conv=>whnf);repeat (first|apply Hs|apply Hx);conv=>whnf)
  refine NewG.frz rfl ?_; ((conv=>whnf);repeat (first|apply Cs|apply Hs|apply Hx);conv=>whnf)
  refine ⟨_, (rfl : aread _ _ _ _ = some _), ?_⟩; ((conv=>whnf);repeat (first|apply Cs|apply Hs|apply Hx);conv=>whnf)
  refine ⟨_, rfl, fun hc => ?_, fun hc => ?_⟩
  ·replace hm := hm.1 hc
   apply Cs;((conv=>whnf);repeat (first|apply Cs|apply Hs|apply Hx);conv=>whnf)
   refine ⟨_, (rfl : aread _ _ _ _ = some _), ?_⟩; ((conv=>whnf);repeat (first|apply Hs|apply Hx);conv=>whnf)
   refine ⟨_, rfl, fun hc => ?_, fun hc => ?_⟩
   ·replace hm := hm.1 hc; ((conv=>whnf);repeat (first|apply Hs|apply Hx);conv=>whnf)
    refine ⟨_, (rfl : aread _ _ _ _ = some _), ?_⟩; ((conv=>whnf);repeat (first|apply Cs|apply Hs|apply Hx);conv=>whnf)
    exact ⟨(eqN p1.bit 0), hm, O.ext, fun h2 F => VLe.refl _ _⟩
   ·replace hm := hm.2 hc; ((conv=>whnf);repeat (first|apply Cs|apply Hs|apply Hx);conv=>whnf)
    exact ⟨false, hm, O.ext, fun h2 F => VLe.refl _ _⟩
  ·replace hm := hm.2 hc
   apply Cs;((conv=>whnf);repeat (first|apply Cs|apply Hs|apply Hx);conv=>whnf)
   refine ⟨_, (rfl : aread _ _ _ _ = some _), ?_⟩; ((conv=>whnf);repeat (first|apply Hs|apply Hx);conv=>whnf)
   refine ⟨.inl rfl, ?_⟩; ((conv=>whnf);repeat (first|apply Hs|apply Hx);conv=>whnf)
   refine ⟨_, rfl, fun hc => ?_, fun hc => ?_⟩
   ·replace hm := hm.1 hc; ((conv=>whnf);repeat (first|apply Hs|apply Hx);conv=>whnf)
    refine ⟨_, (rfl : aread _ _ _ _ = some _), ?_⟩; ((conv=>whnf);repeat (first|apply Hs|apply Hx);conv=>whnf)
    refine ⟨.inl rfl, ?_⟩; ((conv=>whnf);repeat (first|apply Hs|apply Hx);conv=>whnf)
    refine ⟨_, (rfl : aread _ _ _ _ = some _), ?_⟩; ((conv=>whnf);repeat (first|apply Hs|apply Hx);conv=>whnf)
    first | refine ⟨.inr (.inr (rfl)), ?_⟩ | refine ⟨.inr (.inl (by kernel_rfl)), ?_⟩
    ((conv=>whnf);repeat (first|apply Cs|apply Hs|apply Hx);conv=>whnf)
    refine lenM (s := 3) (enc := encMem) (l := p0.mems) rfl rfl ?_; ((conv=>whnf);repeat (first|apply Hs|apply Hx);conv=>whnf)
    refine ⟨_, rfl, fun hc => ?_, fun hc => ?_⟩
    ·replace hm := hm.1 hc; ((conv=>whnf);repeat (first|apply Hs|apply Hx);conv=>whnf)
     refine ⟨_, (rfl : aread _ _ _ _ = some _), ?_⟩; ((conv=>whnf);repeat (first|apply Hs|apply Hx);conv=>whnf)
     refine ⟨.inl rfl, ?_⟩; ((conv=>whnf);repeat (first|apply Hs|apply Hx);conv=>whnf)
     refine ⟨_, rfl, fun hc => ?_, fun hc => ?_⟩
     ·replace hm := hm.1 hc; ((conv=>whnf);repeat (first|apply Hs|apply Hx);conv=>whnf)
      refine ⟨_, (rfl : aread _ _ _ _ = some _), ?_⟩; ((conv=>whnf);repeat (first|apply Hs|apply Hx);conv=>whnf)
      refine ⟨.inl rfl, ?_⟩; ((conv=>whnf);repeat (first|apply Hs|apply Hx);conv=>whnf)
      refine ⟨_, (rfl : aread _ _ _ _ = some _), ?_⟩; ((conv=>whnf);repeat (first|apply Hs|apply Hx);conv=>whnf)
      first | refine ⟨.inr (.inr (rfl)), ?_⟩ | refine ⟨.inr (.inl (by kernel_rfl)), ?_⟩
      ((conv=>whnf);repeat (first|apply Cs|apply Hs|apply Hx);conv=>whnf)
      refine ⟨_, (rfl : aread _ _ _ _ = some _), ?_⟩; ((conv=>whnf);repeat (first|apply Hs|apply Hx);conv=>whnf)
      refine ⟨.inl rfl, ?_⟩; ((conv=>whnf);repeat (first|apply Hs|apply Hx);conv=>whnf)
      obtain ⟨x1, hx1, hm⟩ := hm
      refine flAtM (s := 3) (enc := encMem) (j := p1.mem) rfl rfl rfl rfl hx1 ?_; ((conv=>whnf);repeat (first|apply Hs|apply Hx);conv=>whnf)
      refine ⟨_, (rfl : aread _ _ _ _ = some _), ?_⟩; ((conv=>whnf);repeat (first|apply Hs|apply Hx);conv=>whnf)
      first | refine ⟨.inr (.inr (rfl)), ?_⟩ | refine ⟨.inr (.inl (by kernel_rfl)), ?_⟩
      ((conv=>whnf);repeat (first|apply Cs|apply Hs|apply Hx);conv=>whnf)
      refine lenM (s := 1) (enc := i64) (l := x1.data) rfl rfl ?_; ((conv=>whnf);repeat (first|apply Cs|apply Hs|apply Hx);conv=>whnf)
      exact ⟨(ltN p1.bit x1.data.length), hm, O.ext, fun h2 F => VLe.refl _ _⟩
     ·replace hm := hm.2 hc; ((conv=>whnf);repeat (first|apply Cs|apply Hs|apply Hx);conv=>whnf)
      exact ⟨false, hm, O.ext, fun h2 F => VLe.refl _ _⟩
    ·replace hm := hm.2 hc; ((conv=>whnf);repeat (first|apply Hs|apply Hx);conv=>whnf)
     refine ⟨false, rfl, (fun hc => nomatch hc), fun _ => ?_⟩; ((conv=>whnf);repeat (first|apply Cs|apply Hs|apply Hx);conv=>whnf)
     exact ⟨false, hm, O.ext, fun h2 F => VLe.refl _ _⟩
   ·replace hm := hm.2 hc; ((conv=>whnf);repeat (first|apply Hs|apply Hx);conv=>whnf)
    refine ⟨false, rfl, (fun hc => nomatch hc), fun _ => ?_⟩; ((conv=>whnf);repeat (first|apply Hs|apply Hx);conv=>whnf)
    refine ⟨false, rfl, (fun hc => nomatch hc), fun _ => ?_⟩; ((conv=>whnf);repeat (first|apply Cs|apply Hs|apply Hx);conv=>whnf)
    exact ⟨false, hm, O.ext, fun h2 F => VLe.refl _ _⟩
def netlists_node_wp (p0 : Circ) (p1 : Node) (K : Nat → Prop) : Prop :=
  logic_Fanin_wp p1.kind (fun r1 => ((ltN 15 p1.kind) = true → K 7) ∧ ((ltN 15 p1.kind) = false → joinW (α := Bool) (fun k3 => ((ltN p1.ins.length r1.1) = true → k3 true) ∧ ((ltN p1.ins.length r1.1) = false → k3 (ltI r1.2 (Int.ofNat p1.ins.length)))) (fun v2 => (v2 = true → K 8) ∧ (v2 = false → cf_outside_wp p1.ins p0 (fun r4 => (r4 = true → K 1) ∧ (r4 = false → joinW (α := Bool) (fun k6 => ((eqN p1.kind 13) = true → cf_notTri_wp p1.ins p0 (fun r7 => k6 r7)) ∧ ((eqN p1.kind 13) = false → k6 false)) (fun v5 => (v5 = true → K 7) ∧ (v5 = false → netlists_bit_wp p0 p1 (fun r8 => ((!r8) = true → K 1) ∧ ((!r8) = false → K 0))))))))))
theorem netlists_node_walk {p0 : Circ} {p1 : Node} {K : Nat → Prop} (hm : netlists_node_wp p0 p1 K) {h0 : Heap} (hB : HasB vars h0) : ∃ r, K r ∧ CallD Tryd.prog NG 59 ⟨[encCirc p0, encNode p1]⟩ h0 (i64 r) h0 := by
  unfold netlists_node_wp at hm
  refine fnW hM Tryd.func59 rfl (hP _ _ rfl Tryd.func59) (Nat.le_of_ble_eq_true rfl) hB (enc := i64) (fun r => PureV.flat rfl) fun O => ?_; conv=>whnf
  apply Cs;((conv=>whnf);repeat (first|apply Cs|apply Hs|apply Hx);conv=>whnf)
  refine NewG.frz rfl ?_; ((conv=>whnf);repeat (first|apply Hs|apply Hx);conv=>whnf)
  refine NewG.frz rfl ?_; ((conv=>whnf);repeat (first|apply Cs|apply Hs|apply Hx);conv=>whnf)
  refine ⟨_, (rfl : aread _ _ _ _ = some _), ?_⟩; ((conv=>whnf);repeat (first|apply Hs|apply Hx);conv=>whnf)
  obtain ⟨r1, hm, hcall⟩ := logic_Fanin_walk hm O.has
  refine ⟨_, _, hcall, ?_⟩; ((conv=>whnf);repeat (first|apply Cs|apply Hs|apply Hx);conv=>whnf)
  refine makeFuncK rfl rfl ?_; ((conv=>whnf);repeat (first|apply Cs|apply Hs|apply Hx);conv=>whnf)
  refine ⟨_, (rfl : aread _ _ _ _ = some _), ?_⟩; ((conv=>whnf);repeat (first|apply Cs|apply Hs|apply Hx);conv=>whnf)
  refine ⟨_, rfl, fun hc => ?_, fun hc => ?_⟩
  ·replace hm := hm.1 hc
   apply Cs;((conv=>whnf);repeat (first|apply Cs|apply Hs|apply Hx);conv=>whnf)
   exact ⟨7, hm, O.ext, fun h2 F => VLe.refl _ _⟩
  ·replace hm := hm.2 hc
   refine CodeS.joinWS hm (nn := 53) (σ := Bool × Unit) (fun s => s.1) (fun (v2, _) h => Own vars h0 [] h ∧ True) (fun (v2, _) => [(2, (FP (encCirc p0))), (3, (FP (encNode p1))), (7, (.func (.func 75) ⟨[]⟩ ⟨[(FP (encCirc p0))]⟩)), (19, (.bool v2))]) rfl (fun hm' => ?_) ?_
   ·replace hm := hm'
    apply Cs;((conv=>whnf);repeat (first|apply Cs|apply Hs|apply Hx);conv=>whnf)
    refine ⟨_, (rfl : aread _ _ _ _ = some _), ?_⟩; ((conv=>whnf);repeat (first|apply Hs|apply Hx);conv=>whnf)
    refine lenM (s := 1) (enc := i64) (l := p1.ins) rfl rfl ?_; ((conv=>whnf);repeat (first|apply Hs|apply Hx);conv=>whnf)
    refine ⟨_, rfl, fun hc => ?_, fun hc => ?_⟩
    ·replace hm := hm.1 hc; ((conv=>whnf);repeat (first|apply Hs|apply Hx);conv=>whnf)
     exact ⟨(true, ()), hm, ⟨O, trivial⟩, VLe.refl _ _, VLe.refl _ _, VLe.refl _ _, VLe.refl _ _, trivial⟩
    ·replace hm := hm.2 hc; ((conv=>whnf);repeat (first|apply Hs|apply Hx);conv=>whnf)
     refine ⟨_, (rfl : aread _ _ _ _ = some _), ?_⟩; ((conv=>whnf);repeat (first|apply Hs|apply Hx);conv=>whnf)
     refine lenM (s := 1) (enc := i64) (l := p1.ins) rfl rfl ?_; ((conv=>whnf);repeat (first|apply Hs|apply Hx);conv=>whnf)
     exact ⟨((ltI r1.2 (Int.ofNat p1.ins.length)), ()), hm, ⟨O, trivial⟩, VLe.refl _ _, VLe.refl _ _, VLe.refl _ _, VLe.refl _ _, trivial⟩
   ·clear hm; rintro ⟨v2, _⟩ base h hm ⟨O, _⟩
    ((conv=>whnf);repeat (first|apply Cs|apply Hs|apply Hx);conv=>whnf)
    refine ⟨_, rfl, fun hc => ?_, fun hc => ?_⟩
    ·replace hm := hm.1 hc
     apply Cs;((conv=>whnf);repeat (first|apply Cs|apply Hs|apply Hx);conv=>whnf)
     exact ⟨8, hm, O.ext, fun h2 F => VLe.refl _ _⟩
    ·replace hm := hm.2 hc
     apply Cs;((conv=>whnf);repeat (first|apply Cs|apply Hs|apply Hx);conv=>whnf)
     refine ⟨_, (rfl : aread _ _ _ _ = some _), ?_⟩; ((conv=>whnf);repeat (first|apply Hs|apply Hx);conv=>whnf)
     first | refine ⟨.inr (.inr (rfl)), ?_⟩ | refine ⟨.inr (.inl (by kernel_rfl)), ?_⟩
     ((conv=>whnf);repeat (first|apply Cs|apply Hs|apply Hx);conv=>whnf)
     refine ⟨_, (rfl : aread _ _ _ _ = some _), ?_⟩; ((conv=>whnf);repeat (first|apply Hs|apply Hx);conv=>whnf)
     first | refine ⟨.inr (.inr (rfl)), ?_⟩ | refine ⟨.inr (.inl (by kernel_rfl)), ?_⟩
     ((conv=>whnf);repeat (first|apply Cs|apply Hs|apply Hx);conv=>whnf)
     refine fnG hM Tryd.func42 rfl (hP _ _ rfl Tryd.func42) (Nat.le_of_ble_eq_true rfl) ?_; ((conv=>whnf);repeat (first|apply Cs|apply Hs|apply Hx);conv=>whnf)
     refine NewG.frz rfl ?_; ((conv=>whnf);repeat (first|apply Cs|apply Hs|apply Hx);conv=>whnf)
     refine makeFuncK rfl rfl ?_; ((conv=>whnf);repeat (first|apply Cs|apply Hs|apply Hx);conv=>whnf)
     refine ⟨.inl (Ext.refl _), ?_⟩; ((conv=>whnf);repeat (first|apply Hs|apply Hx);conv=>whnf)
     obtain ⟨r4, hm, hcall⟩ := cf_outside_walk hm O.has
     refine ⟨_, _, hcall, ?_⟩; ((conv=>whnf);repeat (first|apply Hs|apply Hx);conv=>whnf)
     refine ⟨.inl (Ext.refl _), ?_⟩; ((conv=>whnf);repeat (first|apply Hs|apply Hx);conv=>whnf)
     apply Cs;((conv=>whnf);repeat (first|apply Cs|apply Hs|apply Hx);conv=>whnf)
     refine ⟨_, rfl, fun hc => ?_, fun hc => ?_⟩
     ·replace hm := hm.1 hc
      apply Cs;((conv=>whnf);repeat (first|apply Cs|apply Hs|apply Hx);conv=>whnf)
      exact ⟨1, hm, O.ext, fun h2 F => VLe.refl _ _⟩
     ·replace hm := hm.2 hc
      refine CodeS.joinWS hm (nn := 53) (σ := Bool × Unit) (fun s => s.1) (fun (v5, _) h => Own vars h0 [] h ∧ True) (fun (v5, _) => [(2, (FP (encCirc p0))), (3, (FP (encNode p1))), (38, (.bool v5))]) rfl (fun hm' => ?_) ?_
      ·replace hm := hm'
       apply Cs;((conv=>whnf);repeat (first|apply Cs|apply Hs|apply Hx);conv=>whnf)
       refine ⟨_, (rfl : aread _ _ _ _ = some _), ?_⟩; ((conv=>whnf);repeat (first|apply Hs|apply Hx);conv=>whnf)
       refine ⟨_, rfl, fun hc => ?_, fun hc => ?_⟩
       ·replace hm := hm.1 hc; ((conv=>whnf);repeat (first|apply Hs|apply Hx);conv=>whnf)
        refine ⟨_, (rfl : aread _ _ _ _ = some _), ?_⟩; ((conv=>whnf);repeat (first|apply Hs|apply Hx);conv=>whnf)
        obtain ⟨r7, hm, hcall⟩ := cf_notTri_walk hm O.has
        refine ⟨_, _, hcall, ?_⟩; ((conv=>whnf);repeat (first|apply Hs|apply Hx);conv=>whnf)
        exact ⟨(r7, ()), hm, ⟨O, trivial⟩, VLe.refl _ _, VLe.refl _ _, VLe.refl _ _, trivial⟩
       ·replace hm := hm.2 hc; ((conv=>whnf);repeat (first|apply Hs|apply Hx);conv=>whnf)
        exact ⟨(false, ()), hm, ⟨O, trivial⟩, VLe.refl _ _, VLe.refl _ _, VLe.refl _ _, trivial⟩
      ·clear hm; rintro ⟨v5, _⟩ base h hm ⟨O, _⟩
       ((conv=>whnf);repeat (first|apply Cs|apply Hs|apply Hx);conv=>whnf)
       refine ⟨_, rfl, fun hc => ?_, fun hc => ?_⟩
       ·replace hm := hm.1 hc
        apply Cs;((conv=>whnf);repeat (first|apply Cs|apply Hs|apply Hx);conv=>whnf)
        exact ⟨7, hm, O.ext, fun h2 F => VLe.refl _ _⟩
       ·replace hm := hm.2 hc
        apply Cs;((conv=>whnf);repeat (first|apply Cs|apply Hs|apply Hx);conv=>whnf)
        refine ⟨_, (rfl : aread _ _ _ _ = some _), ?_⟩; ((conv=>whnf);repeat (first|apply Hs|apply Hx);conv=>whnf)
        refine ⟨_, (rfl : aread _ _ _ _ = some _), ?_⟩; ((conv=>whnf);repeat (first|apply Hs|apply Hx);conv=>whnf)
        obtain ⟨r8, hm, hcall⟩ := netlists_bit_walk hm O.has
        refine ⟨_, _, hcall, ?_⟩; ((conv=>whnf);repeat (first|apply Cs|apply Hs|apply Hx);conv=>whnf)
        refine ⟨_, rfl, fun hc => ?_, fun hc => ?_⟩
        ·replace hm := hm.1 hc
         apply Cs;((conv=>whnf);repeat (first|apply Cs|apply Hs|apply Hx);conv=>whnf)
         exact ⟨1, hm, O.ext, fun h2 F => VLe.refl _ _⟩
        ·replace hm := hm.2 hc
         apply Cs;((conv=>whnf);repeat (first|apply Cs|apply Hs|apply Hx);conv=>whnf)
         exact ⟨0, hm, O.ext, fun h2 F => VLe.refl _ _⟩
def netlists_memory_wp (p0 : Circ) (p1 : Memo) (K : Nat → Prop) : Prop :=
  joinW (α := Bool) (fun k2 => ((eqN p1.addr.length 0) = true → k2 true) ∧ ((eqN p1.addr.length 0) = false → ((ltN 8 p1.addr.length) = true → k2 true) ∧ ((ltN 8 p1.addr.length) = false → ((eqN p1.data.length 0) = true → k2 true) ∧ ((eqN p1.data.length 0) = false → k2 (ltN 32 p1.data.length))))) (fun v1 => (v1 = true → K 8) ∧ (v1 = false → joinW (α := Bool) (fun k4 => cf_outside_wp p1.addr p0 (fun r5 => (r5 = true → k4 true) ∧ (r5 = false → cf_outside_wp p1.data p0 (fun r6 => (r6 = true → k4 true) ∧ (r6 = false → ((ltN p1.write 0) = true → k4 true) ∧ ((ltN p1.write 0) = false → k4 (!ltN p1.write p0.nodes.length))))))) (fun v3 => (v3 = true → K 1) ∧ (v3 = false → K 0))))
theorem netlists_memory_walk {p0 : Circ} {p1 : Memo} {K : Nat → Prop} (hm : netlists_memory_wp p0 p1 K) {h0 : Heap} (hB : HasB vars h0) : ∃ r, K r ∧ CallD Tryd.prog NG 61 ⟨[encCirc p0, encMem p1]⟩ h0 (i64 r) h0 := by
  unfold netlists_memory_wp at hm
  refine fnW hM Tryd.func61 rfl (hP _ _ rfl Tryd.func61) (Nat.le_of_ble_eq_true rfl) hB (enc := i64) (fun r => PureV.flat rfl) fun O => ?_; conv=>whnf
  apply Cs;((conv=>whnf);repeat (first|apply Cs|apply Hs|apply Hx);conv=>whnf)
  refine NewG.frz rfl ?_; ((conv=>whnf);repeat (first|apply Hs|apply Hx);conv=>whnf)
  refine NewG.frz rfl ?_; ((conv=>whnf);repeat (first|apply Cs|apply Hs|apply Hx);conv=>whnf)
  refine ⟨_, (rfl : aread _ _ _ _ = some _), ?_⟩; ((conv=>whnf);repeat (first|apply Hs|apply Hx);conv=>whnf)
  refine fnG hM Tryd.func42 rfl (hP _ _ rfl Tryd.func42) (Nat.le_of_ble_eq_true rfl) ?_; ((conv=>whnf);repeat (first|apply Cs|apply Hs|apply Hx);conv=>whnf)
  refine NewG.frz rfl ?_; ((conv=>whnf);repeat (first|apply Cs|apply Hs|apply Hx);conv=>whnf)
  refine makeFuncK rfl rfl ?_; ((conv=>whnf);repeat (first|apply Hs|apply Hx);conv=>whnf)
  apply Cs;conv=>whnf
  ((conv=>whnf);repeat (first|apply Hs|apply Hx);conv=>whnf)
  apply Cs;conv=>whnf
  apply Cs;conv=>whnf
  refine CodeS.joinWS hm (nn := 37) (σ := Bool × Unit) (fun s => s.1) (fun (v1, _) h => Own vars h0 [] h ∧ True) (fun (v1, _) => [(3, (FP (encMem p1))), (6, (.func (.func 63) ⟨[]⟩ ⟨[(FP (encCirc p0))]⟩)), (9, (.bool v1))]) rfl (fun hm' => ?_) ?_
  ·replace hm := hm'
   apply Cs;((conv=>whnf);repeat (first|apply Cs|apply Hs|apply Hx);conv=>whnf)
   refine ⟨_, (rfl : aread _ _ _ _ = some _), ?_⟩; ((conv=>whnf);repeat (first|apply Hs|apply Hx);conv=>whnf)
   refine fnG hM Tryd.func78 rfl (hP _ _ rfl Tryd.func78) (Nat.le_of_ble_eq_true rfl) ?_; ((conv=>whnf);repeat (first|apply Cs|apply Hs|apply Hx);conv=>whnf)
   refine lenM (s := 1) (enc := i64) (l := p1.addr) rfl rfl ?_; ((conv=>whnf);repeat (first|apply Hs|apply Hx);conv=>whnf)
   refine ⟨_, rfl, fun hc => ?_, fun hc => ?_⟩
   ·replace hm := hm.1 hc; ((conv=>whnf);repeat (first|apply Cs|apply Hs|apply Hx);conv=>whnf)
    refine ⟨true, rfl, fun _ => ?_, (fun hc => nomatch hc)⟩; ((conv=>whnf);repeat (first|apply Hs|apply Hx);conv=>whnf)
    exact ⟨(true, ()), hm, ⟨O, trivial⟩, VLe.refl _ _, VLe.refl _ _, VLe.refl _ _, trivial⟩
   ·replace hm := hm.2 hc; ((conv=>whnf);repeat (first|apply Hs|apply Hx);conv=>whnf)
    refine lenM (s := 1) (enc := i64) (l := p1.addr) rfl rfl ?_; ((conv=>whnf);repeat (first|apply Cs|apply Hs|apply Hx);conv=>whnf)
    refine ⟨_, rfl, fun hc => ?_, fun hc => ?_⟩
    ·replace hm := hm.1 hc; ((conv=>whnf);repeat (first|apply Hs|apply Hx);conv=>whnf)
     exact ⟨(true, ()), hm, ⟨O, trivial⟩, VLe.refl _ _, VLe.refl _ _, VLe.refl _ _, trivial⟩
    ·replace hm := hm.2 hc; ((conv=>whnf);repeat (first|apply Hs|apply Hx);conv=>whnf)
     refine ⟨_, (rfl : aread _ _ _ _ = some _), ?_⟩; ((conv=>whnf);repeat (first|apply Hs|apply Hx);conv=>whnf)
     refine fnG hM Tryd.func78 rfl (hP _ _ rfl Tryd.func78) (Nat.le_of_ble_eq_true rfl) ?_; ((conv=>whnf);repeat (first|apply Cs|apply Hs|apply Hx);conv=>whnf)
     refine lenM (s := 1) (enc := i64) (l := p1.data) rfl rfl ?_; ((conv=>whnf);repeat (first|apply Hs|apply Hx);conv=>whnf)
     refine ⟨_, rfl, fun hc => ?_, fun hc => ?_⟩
     ·replace hm := hm.1 hc; ((conv=>whnf);repeat (first|apply Cs|apply Hs|apply Hx);conv=>whnf)
      exact ⟨(true, ()), hm, ⟨O, trivial⟩, VLe.refl _ _, VLe.refl _ _, VLe.refl _ _, trivial⟩
     ·replace hm := hm.2 hc; ((conv=>whnf);repeat (first|apply Hs|apply Hx);conv=>whnf)
      refine lenM (s := 1) (enc := i64) (l := p1.data) rfl rfl ?_; ((conv=>whnf);repeat (first|apply Cs|apply Hs|apply Hx);conv=>whnf)
      exact ⟨((ltN 32 p1.data.length), ()), hm, ⟨O, trivial⟩, VLe.refl _ _, VLe.refl _ _, VLe.refl _ _, trivial⟩
  ·clear hm; rintro ⟨v1, _⟩ base h hm ⟨O, _⟩
   ((conv=>whnf);repeat (first|apply Cs|apply Hs|apply Hx);conv=>whnf)
   refine ⟨_, rfl, fun hc => ?_, fun hc => ?_⟩
   ·replace hm := hm.1 hc
    apply Cs;((conv=>whnf);repeat (first|apply Cs|apply Hs|apply Hx);conv=>whnf)
    exact ⟨8, hm, O.ext, fun h2 F => VLe.refl _ _⟩
   ·replace hm := hm.2 hc
    refine CodeS.joinWS hm (nn := 37) (σ := Bool × Unit) (fun s => s.1) (fun (v3, _) h => Own vars h0 [] h ∧ True) (fun (v3, _) => [(20, (.bool v3))]) rfl (fun hm' => ?_) ?_
    ·replace hm := hm'
     apply Cs;((conv=>whnf);repeat (first|apply Cs|apply Hs|apply Hx);conv=>whnf)
     refine ⟨_, (rfl : aread _ _ _ _ = some _), ?_⟩; ((conv=>whnf);repeat (first|apply Hs|apply Hx);conv=>whnf)
     obtain ⟨r5, hm, hcall⟩ := cf_outside_walk hm O.has
     refine ⟨_, _, hcall, ?_⟩; ((conv=>whnf);repeat (first|apply Hs|apply Hx);conv=>whnf)
     refine ⟨_, rfl, fun hc => ?_, fun hc => ?_⟩
     ·replace hm := hm.1 hc; ((conv=>whnf);repeat (first|apply Hs|apply Hx);conv=>whnf)
      refine ⟨true, rfl, fun _ => ?_, (fun hc => nomatch hc)⟩; ((conv=>whnf);repeat (first|apply Hs|apply Hx);conv=>whnf)
      exact ⟨(true, ()), hm, ⟨O, trivial⟩, VLe.refl _ _, trivial⟩
     ·replace hm := hm.2 hc; ((conv=>whnf);repeat (first|apply Hs|apply Hx);conv=>whnf)
      refine ⟨_, (rfl : aread _ _ _ _ = some _), ?_⟩; ((conv=>whnf);repeat (first|apply Hs|apply Hx);conv=>whnf)
      obtain ⟨r6, hm, hcall⟩ := cf_outside_walk hm O.has
      refine ⟨_, _, hcall, ?_⟩; ((conv=>whnf);repeat (first|apply Hs|apply Hx);conv=>whnf)
      refine ⟨_, rfl, fun hc => ?_, fun hc => ?_⟩
      ·replace hm := hm.1 hc; ((conv=>whnf);repeat (first|apply Hs|apply Hx);conv=>whnf)
       exact ⟨(true, ()), hm, ⟨O, trivial⟩, VLe.refl _ _, trivial⟩
      ·replace hm := hm.2 hc; ((conv=>whnf);repeat (first|apply Hs|apply Hx);conv=>whnf)
       refine ⟨_, (rfl : aread _ _ _ _ = some _), ?_⟩; ((conv=>whnf);repeat (first|apply Hs|apply Hx);conv=>whnf)
       refine fnG hM Tryd.func63 rfl (hP _ _ rfl Tryd.func63) (Nat.le_of_ble_eq_true rfl) ?_; ((conv=>whnf);repeat (first|apply Cs|apply Hs|apply Hx);conv=>whnf)
       refine ⟨_, rfl, fun hc => ?_, fun hc => ?_⟩
       ·replace hm := hm.1 hc; ((conv=>whnf);repeat (first|apply Cs|apply Hs|apply Hx);conv=>whnf)
        exact ⟨(true, ()), hm, ⟨O, trivial⟩, VLe.refl _ _, trivial⟩
       ·replace hm := hm.2 hc; ((conv=>whnf);repeat (first|apply Hs|apply Hx);conv=>whnf)
        refine ⟨_, (rfl : aread _ _ _ _ = some _), ?_⟩; ((conv=>whnf);repeat (first|apply Hs|apply Hx);conv=>whnf)
        refine lenM (s := 4) (enc := encNode) (l := p0.nodes) rfl rfl ?_; ((conv=>whnf);repeat (first|apply Cs|apply Hs|apply Hx);conv=>whnf)
        exact ⟨((!ltN p1.write p0.nodes.length), ()), hm, ⟨O, trivial⟩, VLe.refl _ _, trivial⟩
    ·clear hm; rintro ⟨v3, _⟩ base h hm ⟨O, _⟩
     ((conv=>whnf);repeat (first|apply Cs|apply Hs|apply Hx);conv=>whnf)
     refine ⟨_, rfl, fun hc => ?_, fun hc => ?_⟩
     ·replace hm := hm.1 hc
      apply Cs;((conv=>whnf);repeat (first|apply Cs|apply Hs|apply Hx);conv=>whnf)
      exact ⟨1, hm, O.ext, fun h2 F => VLe.refl _ _⟩
     ·replace hm := hm.2 hc
      apply Cs;((conv=>whnf);repeat (first|apply Cs|apply Hs|apply Hx);conv=>whnf)
      exact ⟨0, hm, O.ext, fun h2 F => VLe.refl _ _⟩
def netlists_shape_wp (p0 : Circ) (K : Nat → Prop) : Prop :=
  joinW (α := Bool) (fun k2 => ((ltN 16384 p0.nodes.length) = true → k2 true) ∧ ((ltN 16384 p0.nodes.length) = false → ((ltN 16 p0.mems.length) = true → k2 true) ∧ ((ltN 16 p0.mems.length) = false → k2 (ltN 16384 p0.outs.length)))) (fun v1 => (v1 = true → K 3) ∧ (v1 = false → ((neN p0.names.length p0.nodes.length) = true → K 8) ∧ ((neN p0.names.length p0.nodes.length) = false → joinW (α := Unit) (fun k3 => loopW (S := Nat) (fun v4 nx5 => ((ltN v4 p0.nodes.length) = true → ∃ x6, p0.nodes[v4]? = some x6 ∧ netlists_node_wp p0 x6 (fun r9 => ((neN r9 0) = true → K r9) ∧ ((neN r9 0) = false → v4 + 1 < 2 ^ 63 ∧ nx5 (v4 + 1)))) ∧ ((ltN v4 p0.nodes.length) = false → k3 ())) 0) (fun _ => netlists_names_wp p0 (fun r10 => ((neN r10 0) = true → K r10) ∧ ((neN r10 0) = false → joinW (α := Unit) (fun k11 => loopW (S := Nat) (fun v12 nx13 => ((ltN v12 p0.mems.length) = true → ∃ x14, p0.mems[v12]? = some x14 ∧ netlists_memory_wp p0 x14 (fun r17 => ((neN r17 0) = true → K r17) ∧ ((neN r17 0) = false → v12 + 1 < 2 ^ 63 ∧ nx13 (v12 + 1)))) ∧ ((ltN v12 p0.mems.length) = false → k11 ())) 0) (fun _ => cf_outside_wp p0.outs p0 (fun r18 => (r18 = true → K 1) ∧ (r18 = false → K 0)))))))))
theorem netlists_shape_walk {p0 : Circ} {K : Nat → Prop} (hm : netlists_shape_wp p0 K) {h0 : Heap} (hB : HasB vars h0) : ∃ r, K r ∧ CallD Tryd.prog NG 39 ⟨[encCirc p0]⟩ h0 (i64 r) h0 := by
  unfold netlists_shape_wp at hm
  refine fnW hM Tryd.func39 rfl (hP _ _ rfl Tryd.func39) (Nat.le_of_ble_eq_true rfl) hB (enc := i64) (fun r => PureV.flat rfl) fun O => ?_; conv=>whnf
  apply Cs;((conv=>whnf);repeat (first|apply Cs|apply Hs|apply Hx);conv=>whnf)
  refine NewG.frz rfl ?_; ((conv=>whnf);repeat (first|apply Hs|apply Hx);conv=>whnf)
  apply Cs;conv=>whnf
  apply Cs;conv=>whnf
  refine CodeS.joinWS hm (nn := 73) (σ := Bool × Unit) (fun s => s.1) (fun (v1, _) h => Own vars h0 [] h ∧ True) (fun (v1, _) => [(1, (FP (encCirc p0))), (10, (.bool v1))]) rfl (fun hm' => ?_) ?_
  ·replace hm := hm'
   apply Cs;((conv=>whnf);repeat (first|apply Cs|apply Hs|apply Hx);conv=>whnf)
   refine ⟨_, (rfl : aread _ _ _ _ = some _), ?_⟩; ((conv=>whnf);repeat (first|apply Hs|apply Hx);conv=>whnf)
   refine lenM (s := 4) (enc := encNode) (l := p0.nodes) rfl rfl ?_; ((conv=>whnf);repeat (first|apply Hs|apply Hx);conv=>whnf)
   refine ⟨_, rfl, fun hc => ?_, fun hc => ?_⟩
   ·replace hm := hm.1 hc; ((conv=>whnf);repeat (first|apply Hs|apply Hx);conv=>whnf)
    refine ⟨true, rfl, fun _ => ?_, (fun hc => nomatch hc)⟩; ((conv=>whnf);repeat (first|apply Hs|apply Hx);conv=>whnf)
    exact ⟨(true, ()), hm, ⟨O, trivial⟩, VLe.refl _ _, VLe.refl _ _, trivial⟩
   ·replace hm := hm.2 hc; ((conv=>whnf);repeat (first|apply Hs|apply Hx);conv=>whnf)
    refine ⟨_, (rfl : aread _ _ _ _ = some _), ?_⟩; ((conv=>whnf);repeat (first|apply Hs|apply Hx);conv=>whnf)
    refine lenM (s := 3) (enc := encMem) (l := p0.mems) rfl rfl ?_; ((conv=>whnf);repeat (first|apply Hs|apply Hx);conv=>whnf)
    refine ⟨_, rfl, fun hc => ?_, fun hc => ?_⟩
    ·replace hm := hm.1 hc; ((conv=>whnf);repeat (first|apply Hs|apply Hx);conv=>whnf)
     exact ⟨(true, ()), hm, ⟨O, trivial⟩, VLe.refl _ _, VLe.refl _ _, trivial⟩
    ·replace hm := hm.2 hc; ((conv=>whnf);repeat (first|apply Hs|apply Hx);conv=>whnf)
     refine ⟨_, (rfl : aread _ _ _ _ = some _), ?_⟩; ((conv=>whnf);repeat (first|apply Hs|apply Hx);conv=>whnf)
     refine lenM (s := 1) (enc := i64) (l := p0.outs) rfl rfl ?_; ((conv=>whnf);repeat (first|apply Hs|apply Hx);conv=>whnf)
     exact ⟨((ltN 16384 p0.outs.length), ()), hm, ⟨O, trivial⟩, VLe.refl _ _, VLe.refl _ _, trivial⟩
  ·clear hm; rintro ⟨v1, _⟩ base h hm ⟨O, _⟩
   ((conv=>whnf);repeat (first|apply Cs|apply Hs|apply Hx);conv=>whnf)
   refine ⟨_, rfl, fun hc => ?_, fun hc => ?_⟩
   ·replace hm := hm.1 hc
    apply Cs;((conv=>whnf);repeat (first|apply Cs|apply Hs|apply Hx);conv=>whnf)
    exact ⟨3, hm, O.ext, fun h2 F => VLe.refl _ _⟩
   ·replace hm := hm.2 hc
    apply Cs;((conv=>whnf);repeat (first|apply Cs|apply Hs|apply Hx);conv=>whnf)
    refine ⟨_, (rfl : aread _ _ _ _ = some _), ?_⟩; ((conv=>whnf);repeat (first|apply Hs|apply Hx);conv=>whnf)
    refine lenM (s := 1) (enc := Value.string) (l := p0.names) rfl rfl ?_; ((conv=>whnf);repeat (first|apply Hs|apply Hx);conv=>whnf)
    refine ⟨_, (rfl : aread _ _ _ _ = some _), ?_⟩; ((conv=>whnf);repeat (first|apply Hs|apply Hx);conv=>whnf)
    refine lenM (s := 4) (enc := encNode) (l := p0.nodes) rfl rfl ?_; ((conv=>whnf);repeat (first|apply Cs|apply Hs|apply Hx);conv=>whnf)
    refine ⟨_, rfl, fun hc => ?_, fun hc => ?_⟩
    ·replace hm := hm.1 hc
     apply Cs;((conv=>whnf);repeat (first|apply Cs|apply Hs|apply Hx);conv=>whnf)
     exact ⟨8, hm, O.ext, fun h2 F => VLe.refl _ _⟩
    ·replace hm := hm.2 hc
     apply Cs;conv=>whnf
     refine CodeS.joinWS hm (nn := 73) (σ := Unit × Unit) (fun s => s.1) (fun (_, _) h => Own vars h0 [] h ∧ True) (fun (_, _) => [(1, (FP (encCirc p0)))]) rfl (fun hm' => ?_) ?_
     ·replace hm := hm'
      apply Cs;((conv=>whnf);repeat (first|apply Cs|apply Hs|apply Hx);conv=>whnf)
      refine ⟨_, (rfl : aread _ _ _ _ = some _), ?_⟩; ((conv=>whnf);repeat (first|apply Hs|apply Hx);conv=>whnf)
      refine lenM (s := 4) (enc := encNode) (l := p0.nodes) rfl rfl ?_; ((conv=>whnf);repeat (first|apply Cs|apply Hs|apply Hx);conv=>whnf)
      refine loopWK hM (by kernel_rfl) (nn := 73) (S := Nat) (σ := Nat × Unit) (fun s => s.1) (fun (v4, _) h => Own vars h0 [] h ∧ True) (fun (v4, _) => [(1, (FP (encCirc p0))), (36, ((encL 4 encNode) p0.nodes)), (37, (i64 p0.nodes.length)), (38, (i64 v4))]) rfl (0, ()) hm ⟨O, trivial⟩ ⟨VLe.refl _ _, VLe.refl _ _, VLe.refl _ _, VLe.refl _ _, trivial⟩ ?_
      clear hm; rintro ⟨v4, _⟩ nx5 base h hm ⟨O, _⟩
      ((conv=>whnf);repeat (first|apply Cs|apply Hs|apply Hx);conv=>whnf)
      refine ⟨_, rfl, fun hc => ?_, fun hc => ?_⟩
      ·replace hm := hm.1 hc
       apply Cs;((conv=>whnf);repeat (first|apply Cs|apply Hs|apply Hx);conv=>whnf)
       obtain ⟨x6, hx6, hm⟩ := hm
       refine flAtM (s := 4) (enc := encNode) (j := v4) rfl rfl rfl rfl hx6 ?_; ((conv=>whnf);repeat (first|apply Hs|apply Hx);conv=>whnf)
       refine ⟨_, (rfl : aread _ _ _ _ = some _), ?_⟩; ((conv=>whnf);repeat (first|apply Hs|apply Hx);conv=>whnf)
       refine O.new (anew_alloc (l := [(n8 0), (.slice none 0 0), (i64 0), (i64 0)]) rfl rfl rfl) fun g7 h O => ?_; ((conv=>whnf);repeat (first|apply Hs|apply Hx);conv=>whnf)
       refine O.store (n := 4) (cs' := [(n8 x6.kind), ((encL 1 i64) x6.ins), (i64 x6.mem), (i64 x6.bit)]) (.head _) rfl rfl rfl rfl (Nat.le_of_ble_eq_true rfl) rfl rfl fun h O => ?_; ((conv=>whnf);repeat (first|apply Cs|apply Hs|apply Hx);conv=>whnf)
       refine ⟨_, (rfl : aread _ _ _ _ = some _), ?_⟩; ((conv=>whnf);repeat (first|apply Hs|apply Hx);conv=>whnf)
       refine ⟨_, loadAggK rfl (O.at (.head _)) rfl rfl (Nat.le_of_ble_eq_true rfl) rfl, ?_⟩; ((conv=>whnf);repeat (first|apply Hs|apply Hx);conv=>whnf)
       obtain ⟨r9, hm, hcall⟩ := netlists_node_walk hm O.has
       refine ⟨_, _, hcall, ?_⟩; ((conv=>whnf);repeat (first|apply Cs|apply Hs|apply Hx);conv=>whnf)
       refine ⟨_, rfl, fun hc => ?_, fun hc => ?_⟩
       ·replace hm := hm.1 hc
        apply Cs;((conv=>whnf);repeat (first|apply Cs|apply Hs|apply Hx);conv=>whnf)
        exact ⟨r9, hm, O.ext, fun h2 F => VLe.refl _ _⟩
       ·replace hm := hm.2 hc
        apply Cs;((conv=>whnf);repeat (first|apply Cs|apply Hs|apply Hx);conv=>whnf)
        refine ⟨_, addK (a := v4) (b := 1) rfl rfl hm.1, ?_⟩; ((conv=>whnf);repeat (first|apply Hs|apply Hx);conv=>whnf)
        replace hm := hm.2
        exact ⟨((v4 + 1), ()), hm, ⟨(O.sel [] (by decide)), trivial⟩, VLe.refl _ _, VLe.refl _ _, VLe.refl _ _, VLe.refl _ _, trivial⟩
      ·replace hm := hm.2 hc
       apply Cs;((conv=>whnf);repeat (first|apply Cs|apply Hs|apply Hx);conv=>whnf)
       exact ⟨((), ()), hm, ⟨O, trivial⟩, VLe.refl _ _, trivial⟩
     ·clear hm; rintro ⟨_, _⟩ base h hm ⟨O, _⟩
      ((conv=>whnf);repeat (first|apply Cs|apply Hs|apply Hx);conv=>whnf)
      refine ⟨_, (rfl : aread _ _ _ _ = some _), ?_⟩; ((conv=>whnf);repeat (first|apply Hs|apply Hx);conv=>whnf)
      obtain ⟨r10, hm, hcall⟩ := netlists_names_walk hm O.has
      refine ⟨_, _, hcall, ?_⟩; ((conv=>whnf);repeat (first|apply Cs|apply Hs|apply Hx);conv=>whnf)
      refine ⟨_, rfl, fun hc => ?_, fun hc => ?_⟩
      ·replace hm := hm.1 hc
       apply Cs;((conv=>whnf);repeat (first|apply Cs|apply Hs|apply Hx);conv=>whnf)
       exact ⟨r10, hm, O.ext, fun h2 F => VLe.refl _ _⟩
      ·replace hm := hm.2 hc
       apply Cs;conv=>whnf
       refine CodeS.joinWS hm (nn := 73) (σ := Unit × Unit) (fun s => s.1) (fun (_, _) h => Own vars h0 [] h ∧ True) (fun (_, _) => [(1, (FP (encCirc p0)))]) rfl (fun hm' => ?_) ?_
       ·replace hm := hm'
        apply Cs;((conv=>whnf);repeat (first|apply Cs|apply Hs|apply Hx);conv=>whnf)
        refine ⟨_, (rfl : aread _ _ _ _ = some _), ?_⟩; ((conv=>whnf);repeat (first|apply Hs|apply Hx);conv=>whnf)
        refine lenM (s := 3) (enc := encMem) (l := p0.mems) rfl rfl ?_; ((conv=>whnf);repeat (first|apply Cs|apply Hs|apply Hx);conv=>whnf)
        refine loopWK hM (by kernel_rfl) (nn := 73) (S := Nat) (σ := Nat × Unit) (fun s => s.1) (fun (v12, _) h => Own vars h0 [] h ∧ True) (fun (v12, _) => [(1, (FP (encCirc p0))), (55, ((encL 3 encMem) p0.mems)), (56, (i64 p0.mems.length)), (57, (i64 v12))]) rfl (0, ()) hm ⟨O, trivial⟩ ⟨VLe.refl _ _, VLe.refl _ _, VLe.refl _ _, VLe.refl _ _, trivial⟩ ?_
        clear hm; rintro ⟨v12, _⟩ nx13 base h hm ⟨O, _⟩
        ((conv=>whnf);repeat (first|apply Cs|apply Hs|apply Hx);conv=>whnf)
        refine ⟨_, rfl, fun hc => ?_, fun hc => ?_⟩
        ·replace hm := hm.1 hc
         apply Cs;((conv=>whnf);repeat (first|apply Cs|apply Hs|apply Hx);conv=>whnf)
         obtain ⟨x14, hx14, hm⟩ := hm
         refine flAtM (s := 3) (enc := encMem) (j := v12) rfl rfl rfl rfl hx14 ?_; ((conv=>whnf);repeat (first|apply Hs|apply Hx);conv=>whnf)
         refine ⟨_, (rfl : aread _ _ _ _ = some _), ?_⟩; ((conv=>whnf);repeat (first|apply Hs|apply Hx);conv=>whnf)
         refine O.new (anew_alloc (l := [(.slice none 0 0), (.slice none 0 0), (i64 0)]) rfl rfl rfl) fun g15 h O => ?_; ((conv=>whnf);repeat (first|apply Hs|apply Hx);conv=>whnf)
         refine O.store (n := 3) (cs' := [((encL 1 i64) x14.addr), ((encL 1 i64) x14.data), (i64 x14.write)]) (.head _) rfl rfl rfl rfl (Nat.le_of_ble_eq_true rfl) rfl rfl fun h O => ?_; ((conv=>whnf);repeat (first|apply Cs|apply Hs|apply Hx);conv=>whnf)
         refine ⟨_, (rfl : aread _ _ _ _ = some _), ?_⟩; ((conv=>whnf);repeat (first|apply Hs|apply Hx);conv=>whnf)
         refine ⟨_, loadAggK rfl (O.at (.head _)) rfl rfl (Nat.le_of_ble_eq_true rfl) rfl, ?_⟩; ((conv=>whnf);repeat (first|apply Hs|apply Hx);conv=>whnf)
         obtain ⟨r17, hm, hcall⟩ := netlists_memory_walk hm O.has
         refine ⟨_, _, hcall, ?_⟩; ((conv=>whnf);repeat (first|apply Cs|apply Hs|apply Hx);conv=>whnf)
         refine ⟨_, rfl, fun hc => ?_, fun hc => ?_⟩
         ·replace hm := hm.1 hc
          apply Cs;((conv=>whnf);repeat (first|apply Cs|apply Hs|apply Hx);conv=>whnf)
          exact ⟨r17, hm, O.ext, fun h2 F => VLe.refl _ _⟩
         ·replace hm := hm.2 hc
          apply Cs;((conv=>whnf);repeat (first|apply Cs|apply Hs|apply Hx);conv=>whnf)
          refine ⟨_, addK (a := v12) (b := 1) rfl rfl hm.1, ?_⟩; ((conv=>whnf);repeat (first|apply Hs|apply Hx);conv=>whnf)
          replace hm := hm.2
          exact ⟨((v12 + 1), ()), hm, ⟨(O.sel [] (by decide)), trivial⟩, VLe.refl _ _, VLe.refl _ _, VLe.refl _ _, VLe.refl _ _, trivial⟩
        ·replace hm := hm.2 hc
         apply Cs;((conv=>whnf);repeat (first|apply Cs|apply Hs|apply Hx);conv=>whnf)
         exact ⟨((), ()), hm, ⟨O, trivial⟩, VLe.refl _ _, trivial⟩
       ·clear hm; rintro ⟨_, _⟩ base h hm ⟨O, _⟩
        ((conv=>whnf);repeat (first|apply Cs|apply Hs|apply Hx);conv=>whnf)
        refine ⟨_, (rfl : aread _ _ _ _ = some _), ?_⟩; ((conv=>whnf);repeat (first|apply Hs|apply Hx);conv=>whnf)
        first | refine ⟨.inr (.inr (rfl)), ?_⟩ | refine ⟨.inr (.inl (by kernel_rfl)), ?_⟩
        ((conv=>whnf);repeat (first|apply Cs|apply Hs|apply Hx);conv=>whnf)
        refine ⟨_, (rfl : aread _ _ _ _ = some _), ?_⟩; ((conv=>whnf);repeat (first|apply Hs|apply Hx);conv=>whnf)
        first | refine ⟨.inr (.inr (rfl)), ?_⟩ | refine ⟨.inr (.inl (by kernel_rfl)), ?_⟩
        ((conv=>whnf);repeat (first|apply Cs|apply Hs|apply Hx);conv=>whnf)
        refine fnG hM Tryd.func42 rfl (hP _ _ rfl Tryd.func42) (Nat.le_of_ble_eq_true rfl) ?_; ((conv=>whnf);repeat (first|apply Cs|apply Hs|apply Hx);conv=>whnf)
        refine NewG.frz rfl ?_; ((conv=>whnf);repeat (first|apply Cs|apply Hs|apply Hx);conv=>whnf)
        refine makeFuncK rfl rfl ?_; ((conv=>whnf);repeat (first|apply Cs|apply Hs|apply Hx);conv=>whnf)
        refine ⟨.inl (Ext.refl _), ?_⟩; ((conv=>whnf);repeat (first|apply Hs|apply Hx);conv=>whnf)
        obtain ⟨r18, hm, hcall⟩ := cf_outside_walk hm O.has
        refine ⟨_, _, hcall, ?_⟩; ((conv=>whnf);repeat (first|apply Hs|apply Hx);conv=>whnf)
        refine ⟨.inl (Ext.refl _), ?_⟩; ((conv=>whnf);repeat (first|apply Hs|apply Hx);conv=>whnf)
        apply Cs;((conv=>whnf);repeat (first|apply Cs|apply Hs|apply Hx);conv=>whnf)
        refine ⟨_, rfl, fun hc => ?_, fun hc => ?_⟩
        ·replace hm := hm.1 hc
         apply Cs;((conv=>whnf);repeat (first|apply Cs|apply Hs|apply Hx);conv=>whnf)
         exact ⟨1, hm, O.ext, fun h2 F => VLe.refl _ _⟩
        ·replace hm := hm.2 hc
         apply Cs;((conv=>whnf);repeat (first|apply Cs|apply Hs|apply Hx);conv=>whnf)
         exact ⟨0, hm, O.ext, fun h2 F => VLe.refl _ _⟩
def netlists_Of_wp (p0 : Circ) (p1 : (List Nat)) (K : (List Nat) → Prop) : Prop :=
  joinW (α := (List Nat)) (fun k5 => loopW (S := ((List Nat) × Nat)) (fun (v7, v8) nx10 => ((ltN v8 p0.nodes.length) = true → joinW (α := (List Nat)) (fun k14 => ∃ x15, p0.nodes[v8]? = some x15 ∧ sl_ContainsK_wp p1 x15.kind (fun r18 => (r18 = true → (v7.length + ([v8] : (List Nat)).length) * 8 ≤ 2 ^ 47 ∧ k14 (v7 ++ ([v8] : (List Nat)))) ∧ (r18 = false → k14 v7))) (fun v12 => v8 + 1 < 2 ^ 63 ∧ nx10 (v12, (v8 + 1)))) ∧ ((ltN v8 p0.nodes.length) = false → k5 v7)) (([] : List Nat), 0)) (fun v3 => K v3)
theorem netlists_Of_walk {p0 : Circ} {p1 : (List Nat)} {K : (List Nat) → Prop} (hm : netlists_Of_wp p0 p1 K) {h0 : Heap} (hB : HasB vars h0) : ∃ r, K r ∧ CallD Tryd.prog NG 8 ⟨[encCirc p0, (encL 1 n8) p1]⟩ h0 ((encL 1 i64) r) h0 := by
  unfold netlists_Of_wp at hm
  refine fnW hM Tryd.func8 rfl (hP _ _ rfl Tryd.func8) (Nat.le_of_ble_eq_true rfl) hB (enc := (encL 1 i64)) (fun r => pureL (fun _ => AllPure.cons (PureV.flat rfl) AllPure.nil)) fun O => ?_; conv=>whnf
  apply Cs;((conv=>whnf);repeat (first|apply Cs|apply Hs|apply Hx);conv=>whnf)
  refine NewG.frz rfl ?_; ((conv=>whnf);repeat (first|apply Hs|apply Hx);conv=>whnf)
  apply Cs;conv=>whnf
  apply Cs;((conv=>whnf);repeat (first|apply Hs|apply Hx);conv=>whnf)
  have O := O.addNil (.cells (flatC ((([] : List Nat)).map i64)) false)
  refine CodeS.joinWS hm (nn := 27) (σ := (List Nat) × Option Nat) (fun s => s.1) (fun (v3, a2) h => (a2 = none → v3 = []) ∧ Own vars h0 [(a2, .cells (flatC (v3.map i64)) false)] h ∧ True) (fun (v3, a2) => [(5, (growV 1 a2 (v3.map i64)))]) rfl (fun hm' => ?_) ?_
  ·replace hm := hm'
   apply Cs;((conv=>whnf);repeat (first|apply Cs|apply Hs|apply Hx);conv=>whnf)
   refine ⟨_, (rfl : aread _ _ _ _ = some _), ?_⟩; ((conv=>whnf);repeat (first|apply Hs|apply Hx);conv=>whnf)
   refine lenM (s := 4) (enc := encNode) (l := p0.nodes) rfl rfl ?_; ((conv=>whnf);repeat (first|apply Cs|apply Hs|apply Hx);conv=>whnf)
   refine loopWK hM (by kernel_rfl) (nn := 27) (S := ((List Nat) × Nat)) (σ := ((List Nat) × Nat) × Option Nat) (fun s => s.1) (fun ((v7, v8), a6) h => (a6 = none → v7 = []) ∧ Own vars h0 [(a6, .cells (flatC (v7.map i64)) false)] h ∧ True) (fun ((v7, v8), a6) => [(1, ((encL 1 n8) p1)), (5, (growV 1 a6 (v7.map i64))), (9, ((encL 4 encNode) p0.nodes)), (10, (i64 p0.nodes.length)), (11, (i64 v8))]) rfl ((([] : List Nat), 0), none) hm ⟨(fun _ => rfl), O, trivial⟩ ⟨VLe.refl _ _, VLe.refl _ _, VLe.refl _ _, VLe.refl _ _, VLe.refl _ _, trivial⟩ ?_
   clear hm; rintro ⟨⟨v7, v8⟩, a6⟩ nx10 base h hm ⟨ha9, O, _⟩
   ((conv=>whnf);repeat (first|apply Cs|apply Hs|apply Hx);conv=>whnf)
   refine ⟨_, rfl, fun hc => ?_, fun hc => ?_⟩
   ·replace hm := hm.1 hc
    apply Cs;conv=>whnf
    refine CodeS.joinWS hm (nn := 27) (σ := (List Nat) × Option Nat) (fun s => s.1) (fun (v12, a11) h => (a11 = none → v12 = []) ∧ Own vars h0 [(a11, .cells (flatC (v12.map i64)) false)] h ∧ True) (fun (v12, a11) => [(1, ((encL 1 n8) p1)), (5, (growV 1 a11 (v12.map i64))), (9, ((encL 4 encNode) p0.nodes)), (10, (i64 p0.nodes.length)), (11, (i64 v8))]) rfl (fun hm' => ?_) ?_
    ·replace hm := hm'
     apply Cs;((conv=>whnf);repeat (first|apply Cs|apply Hs|apply Hx);conv=>whnf)
     obtain ⟨x15, hx15, hm⟩ := hm
     refine flAtM (s := 4) (enc := encNode) (j := v8) rfl rfl rfl rfl hx15 ?_; ((conv=>whnf);repeat (first|apply Hs|apply Hx);conv=>whnf)
     refine ⟨_, (rfl : aread _ _ _ _ = some _), ?_⟩; ((conv=>whnf);repeat (first|apply Hs|apply Hx);conv=>whnf)
     refine O.new (anew_alloc (l := [(n8 0), (.slice none 0 0), (i64 0), (i64 0)]) rfl rfl rfl) fun g16 h O => ?_; ((conv=>whnf);repeat (first|apply Hs|apply Hx);conv=>whnf)
     refine O.store (n := 4) (cs' := [(n8 x15.kind), ((encL 1 i64) x15.ins), (i64 x15.mem), (i64 x15.bit)]) (.head _) rfl rfl rfl rfl (Nat.le_of_ble_eq_true rfl) rfl rfl fun h O => ?_; ((conv=>whnf);repeat (first|apply Cs|apply Hs|apply Hx);conv=>whnf)
     refine ⟨_, loadK rfl (O.at (.head _)) rfl rfl, ?_⟩; ((conv=>whnf);repeat (first|apply Hs|apply Hx);conv=>whnf)
     obtain ⟨r18, hm, hcall⟩ := sl_ContainsK_walk hm O.has
     refine ⟨_, _, hcall, ?_⟩; ((conv=>whnf);repeat (first|apply Cs|apply Hs|apply Hx);conv=>whnf)
     refine ⟨_, rfl, fun hc => ?_, fun hc => ?_⟩
     ·replace hm := hm.1 hc
      apply Cs;((conv=>whnf);repeat (first|apply Cs|apply Hs|apply Hx);conv=>whnf)
      refine NewG.frz rfl ?_; ((conv=>whnf);repeat (first|apply Hs|apply Hx);conv=>whnf)
      refine O.appendL (enc := i64) (l := v7) (new := ([v8] : (List Nat))) (s := 1) (b := 8) (.tail _ (.head _)) ha9 rfl rfl rfl rfl rfl rfl rfl rfl (YOk.fl rfl) (fun _ => rfl) (fun _ => rfl) (by decide) hm.1 fun a19 h ha20 O => ?_; ((conv=>whnf);repeat (first|apply Hs|apply Hx);conv=>whnf)
      replace hm := hm.2
      exact ⟨((v7 ++ ([v8] : (List Nat))), a19), hm, ⟨ha20, (O.sel [1] (by decide)), trivial⟩, VLe.refl _ _, VLe.refl _ _, VLe.refl _ _, VLe.refl _ _, VLe.refl _ _, trivial⟩
     ·replace hm := hm.2 hc
      apply Cs;((conv=>whnf);repeat (first|apply Cs|apply Hs|apply Hx);conv=>whnf)
      exact ⟨(v7, a6), hm, ⟨ha9, (O.sel [1] (by decide)), trivial⟩, VLe.refl _ _, VLe.refl _ _, VLe.refl _ _, VLe.refl _ _, VLe.refl _ _, trivial⟩
    ·clear hm; rintro ⟨v12, a11⟩ base h hm ⟨ha13, O, _⟩
     ((conv=>whnf);repeat (first|apply Cs|apply Hs|apply Hx);conv=>whnf)
     refine ⟨_, addK (a := v8) (b := 1) rfl rfl hm.1, ?_⟩; ((conv=>whnf);repeat (first|apply Hs|apply Hx);conv=>whnf)
     replace hm := hm.2
     exact ⟨((v12, (v8 + 1)), a11), hm, ⟨ha13, O, trivial⟩, VLe.refl _ _, VLe.refl _ _, VLe.refl _ _, VLe.refl _ _, VLe.refl _ _, trivial⟩
   ·replace hm := hm.2 hc
    apply Cs;((conv=>whnf);repeat (first|apply Cs|apply Hs|apply Hx);conv=>whnf)
    exact ⟨(v7, a6), hm, ⟨ha9, O, trivial⟩, VLe.refl _ _, trivial⟩
  ·clear hm; rintro ⟨v3, a2⟩ base h hm ⟨ha4, O, _⟩
   ((conv=>whnf);repeat (first|apply Cs|apply Hs|apply Hx);conv=>whnf)
   refine fnG hM Tryd.func24 rfl (hP _ _ rfl Tryd.func24) (Nat.le_of_ble_eq_true rfl) ?_; ((conv=>whnf);repeat (first|apply Cs|apply Hs|apply Hx);conv=>whnf)
   refine lenG (enc := i64) (l := v3) rfl rfl ?_; ((conv=>whnf);repeat (first|apply Hs|apply Hx);conv=>whnf)
   refine lenG (enc := i64) (l := v3) rfl rfl ?_; ((conv=>whnf);repeat (first|apply Hs|apply Hx);conv=>whnf)
   refine clipK (s := 1) (enc := i64) (l := v3) (n := v3.length) (m := v3.length) rfl rfl rfl rfl rfl rfl rfl ?_; ((conv=>whnf);repeat (first|apply Cs|apply Hs|apply Hx);conv=>whnf)
   exact ⟨v3, hm, O.ext, fun h2 F => O.clipL F (Nat.le_refl _) (.head _) ha4 (fun _ => rfl)⟩
def netlists_Levels_wp (p0 : Circ) (K : ((List Nat) × Nat) → Prop) : Prop :=
  netlists_shape_wp p0 (fun r1 => ((neN r1 0) = true → K ([], r1)) ∧ ((neN r1 0) = false → 8 * p0.nodes.length ≤ 2 ^ 48 ∧ p0.nodes.length < 2 ^ 63 ∧ 8 * p0.nodes.length ≤ 2 ^ 48 ∧ p0.nodes.length < 2 ^ 63 ∧ joinW (α := ((List Nat) × (List Nat))) (fun k11 => loopW (S := ((List Nat) × (List Nat) × Nat)) (fun (v12, v14, v15) nx17 => ((ltN v15 p0.nodes.length) = true → joinW (α := ((List Nat) × (List Nat))) (fun k22 => ∃ x23, p0.nodes[v15]? = some x23 ∧ joinW (α := (List Nat)) (fun k28 => netlists_Comb_wp x23.kind (fun r29 => (r29 = true → v15 < p0.nodes.length ∧ ∃ x30, v12[v15]? = some x30 ∧ k28 (v12.set v15 x23.ins.length)) ∧ (r29 = false → k28 v12))) (fun v26 => v15 < p0.nodes.length ∧ ∃ x31, v26[v15]? = some x31 ∧ ((eqN x31 0) = true → (v14.length + ([v15] : (List Nat)).length) * 8 ≤ 2 ^ 47 ∧ k22 (v26, (v14 ++ ([v15] : (List Nat))))) ∧ ((eqN x31 0) = false → k22 (v26, v14)))) (fun (v18, v20) => v15 + 1 < 2 ^ 63 ∧ nx17 (v18, v20, (v15 + 1)))) ∧ ((ltN v15 p0.nodes.length) = false → k11 (v12, v14))) ((List.replicate p0.nodes.length (0 : Nat)), ([] : List Nat), 0)) (fun (v7, v9) => netlists_Fanout_wp p0 (fun r34 => joinW (α := ((List Nat) × Nat)) (fun k37 => loopW (S := ((List Nat) × (List Nat) × (List Nat) × Nat)) (fun (v38, v39, v41, v42) nx44 => ((ltN v42 v41.length) = true → ∃ x45, v41[v42]? = some x45 ∧ v42 + 1 < 2 ^ 63 ∧ ∃ x47, r34[x45]? = some x47 ∧ ((eqN x47.length 0) = true → nx44 (v38, v39, v41, (v42 + 1))) ∧ ((eqN x47.length 0) = false → ∃ x48, r34[x45]? = some x48 ∧ loopW (S := ((List Nat) × (List Nat) × (List Nat) × Nat)) (fun (v49, v50, v52, v53) nx55 => ((ltN v53 x48.length) = true → joinW (α := ((List Nat) × (List Nat) × (List Nat))) (fun k61 => ∃ x62, x48[v53]? = some x62 ∧ ∃ x65, p0.nodes[x62.node]? = some x65 ∧ netlists_Comb_wp x65.kind (fun r66 => ((!r66) = true → k61 (v49, v50, v52)) ∧ ((!r66) = false → x62.node < p0.nodes.length ∧ ∃ x67, v49[x62.node]? = some x67 ∧ x45 < p0.nodes.length ∧ ∃ x68, v49[x45]? = some x68 ∧ x68 + 1 < 2 ^ 63 ∧ x62.node < p0.nodes.length ∧ ∃ x69, v49[x62.node]? = some x69 ∧ x62.node < p0.nodes.length ∧ ∃ x70, v50[x62.node]? = some x70 ∧ 1 ≤ x70 ∧ x70 < 2 ^ 63 ∧ x62.node < p0.nodes.length ∧ ∃ x71, v50[x62.node]? = some x71 ∧ x62.node < p0.nodes.length ∧ ∃ x72, (v50.set x62.node (x70 - 1))[x62.node]? = some x72 ∧ ((eqN x72 0) = true → (v52.length + ([x62.node] : (List Nat)).length) * 8 ≤ 2 ^ 47 ∧ k61 ((v49.set x62.node (max x67 (x68 + 1))), (v50.set x62.node (x70 - 1)), (v52 ++ ([x62.node] : (List Nat))))) ∧ ((eqN x72 0) = false → k61 ((v49.set x62.node (max x67 (x68 + 1))), (v50.set x62.node (x70 - 1)), v52))))) (fun (v56, v57, v59) => v53 + 1 < 2 ^ 63 ∧ nx55 (v56, v57, v59, (v53 + 1)))) ∧ ((ltN v53 x48.length) = false → nx44 (v49, v50, v52, (v42 + 1)))) (v38, v39, v41, 0))) ∧ ((ltN v42 v41.length) = false → k37 (v38, v42))) ((List.replicate p0.nodes.length (0 : Nat)), v7, v9, 0)) (fun (v35, v36) => ((ltN v36 p0.nodes.length) = true → K ([], 6)) ∧ ((ltN v36 p0.nodes.length) = false → p0.nodes.length = v35.length ∧ K (v35, 0)))))))
theorem netlists_Levels_walk {p0 : Circ} {K : ((List Nat) × Nat) → Prop} (hm : netlists_Levels_wp p0 K) {h0 : Heap} (hB : HasB vars h0) : ∃ r, K r ∧ CallD Tryd.prog NG 22 ⟨[encCirc p0]⟩ h0 ((fun (r : ((List Nat) × Nat)) => Value.tuple ⟨[(encL 1 i64) (r.1), i64 (r.2)]⟩) r) h0 := by
  unfold netlists_Levels_wp at hm
  refine fnW hM Tryd.func22 rfl (hP _ _ rfl Tryd.func22) (Nat.le_of_ble_eq_true rfl) hB (enc := (fun (r : ((List Nat) × Nat)) => Value.tuple ⟨[(encL 1 i64) (r.1), i64 (r.2)]⟩)) (fun r => PureV.tup (AllPure.cons (pureL (fun _ => AllPure.cons (PureV.flat rfl) AllPure.nil)) (AllPure.cons (PureV.flat rfl) (AllPure.nil)))) fun O => ?_; conv=>whnf
  apply Cs;((conv=>whnf);repeat (first|apply Cs|apply Hs|apply Hx);conv=>whnf)
  refine NewG.frz rfl ?_; ((conv=>whnf);repeat (first|apply Cs|apply Hs|apply Hx);conv=>whnf)
  refine ⟨_, (rfl : aread _ _ _ _ = some _), ?_⟩; ((conv=>whnf);repeat (first|apply Hs|apply Hx);conv=>whnf)
  obtain ⟨r1, hm, hcall⟩ := netlists_shape_walk hm O.has
  refine ⟨_, _, hcall, ?_⟩; ((conv=>whnf);repeat (first|apply Cs|apply Hs|apply Hx);conv=>whnf)
  refine ⟨_, rfl, fun hc => ?_, fun hc => ?_⟩
  ·replace hm := hm.1 hc
   apply Cs;((conv=>whnf);repeat (first|apply Cs|apply Hs|apply Hx);conv=>whnf)
   exact ⟨([], r1), hm, O.ext, fun h2 F => VLe.tup (LLe.cons (VLe.nil _ _) (LLe.cons (VLe.refl _ _) (LLe.nil _)))⟩
  ·replace hm := hm.2 hc
   apply Cs;((conv=>whnf);repeat (first|apply Cs|apply Hs|apply Hx);conv=>whnf)
   refine ⟨_, (rfl : aread _ _ _ _ = some _), ?_⟩; ((conv=>whnf);repeat (first|apply Hs|apply Hx);conv=>whnf)
   refine lenM (s := 4) (enc := encNode) (l := p0.nodes) rfl rfl ?_; ((conv=>whnf);repeat (first|apply Hs|apply Hx);conv=>whnf)
   refine O.makeL (enc := i64) (z := 0) (b := 8) (s := 1) (n := p0.nodes.length) rfl rfl rfl rfl rfl (by decide) (by kernel_rfl) rfl rfl hm.1 hm.2.1 fun g2 h O => ?_; ((conv=>whnf);repeat (first|apply Cs|apply Hs|apply Hx);conv=>whnf)
   replace hm := hm.2.2
   refine ⟨_, (rfl : aread _ _ _ _ = some _), ?_⟩; ((conv=>whnf);repeat (first|apply Hs|apply Hx);conv=>whnf)
   refine lenM (s := 4) (enc := encNode) (l := p0.nodes) rfl rfl ?_; ((conv=>whnf);repeat (first|apply Hs|apply Hx);conv=>whnf)
   refine O.makeL (enc := i64) (z := 0) (b := 8) (s := 1) (n := p0.nodes.length) rfl rfl rfl rfl rfl (by decide) (by kernel_rfl) rfl rfl hm.1 hm.2.1 fun g4 h O => ?_; ((conv=>whnf);repeat (first|apply Hs|apply Hx);conv=>whnf)
   replace hm := hm.2.2
   apply Cs;conv=>whnf
   apply Cs;((conv=>whnf);repeat (first|apply Hs|apply Hx);conv=>whnf)
   have O := O.addNil (.cells (flatC ((([] : List Nat)).map i64)) false)
   refine CodeS.joinWS hm (nn := 131) (σ := ((List Nat) × (List Nat)) × Option Nat) (fun s => s.1) (fun ((v7, v9), a8) h => (a8 = none → v9 = []) ∧ Own vars h0 [((some g2), .cells (flatC ((List.replicate p0.nodes.length (0 : Nat)).map i64)) false), ((some g4), .cells (flatC (v7.map i64)) false), (a8, .cells (flatC (v9.map i64)) false)] h ∧ True) (fun ((v7, v9), a8) => [(1, (FP (encCirc p0))), (5, (.slice (some ⟨g2, 0, none⟩) p0.nodes.length p0.nodes.length)), (6, (.slice (some ⟨g4, 0, none⟩) p0.nodes.length p0.nodes.length)), (7, (growV 1 a8 (v9.map i64)))]) rfl (fun hm' => ?_) ?_
   ·replace hm := hm'
    apply Cs;((conv=>whnf);repeat (first|apply Cs|apply Hs|apply Hx);conv=>whnf)
    refine ⟨_, (rfl : aread _ _ _ _ = some _), ?_⟩; ((conv=>whnf);repeat (first|apply Hs|apply Hx);conv=>whnf)
    refine lenM (s := 4) (enc := encNode) (l := p0.nodes) rfl rfl ?_; ((conv=>whnf);repeat (first|apply Cs|apply Hs|apply Hx);conv=>whnf)
    refine loopWK hM (by kernel_rfl) (nn := 131) (S := ((List Nat) × (List Nat) × Nat)) (σ := ((List Nat) × (List Nat) × Nat) × Option Nat) (fun s => s.1) (fun ((v12, v14, v15), a13) h => (a13 = none → v14 = []) ∧ Own vars h0 [((some g2), .cells (flatC ((List.replicate p0.nodes.length (0 : Nat)).map i64)) false), ((some g4), .cells (flatC (v12.map i64)) false), (a13, .cells (flatC (v14.map i64)) false)] h ∧ True) (fun ((v12, v14, v15), a13) => [(1, (FP (encCirc p0))), (5, (.slice (some ⟨g2, 0, none⟩) p0.nodes.length p0.nodes.length)), (6, (.slice (some ⟨g4, 0, none⟩) p0.nodes.length p0.nodes.length)), (7, (growV 1 a13 (v14.map i64))), (29, ((encL 4 encNode) p0.nodes)), (30, (i64 p0.nodes.length)), (31, (i64 v15))]) rfl (((List.replicate p0.nodes.length (0 : Nat)), ([] : List Nat), 0), none) hm ⟨(fun _ => rfl), (O.sel [2, 1, 0] (by decide)), trivial⟩ ⟨VLe.refl _ _, VLe.refl _ _, VLe.refl _ _, VLe.refl _ _, VLe.refl _ _, VLe.refl _ _, VLe.refl _ _, trivial⟩ ?_
    clear hm; rintro ⟨⟨v12, v14, v15⟩, a13⟩ nx17 base h hm ⟨ha16, O, _⟩
    ((conv=>whnf);repeat (first|apply Cs|apply Hs|apply Hx);conv=>whnf)
    refine ⟨_, rfl, fun hc => ?_, fun hc => ?_⟩
    ·replace hm := hm.1 hc
     apply Cs;conv=>whnf
     refine CodeS.joinWS hm (nn := 131) (σ := ((List Nat) × (List Nat)) × Option Nat) (fun s => s.1) (fun ((v18, v20), a19) h => (a19 = none → v20 = []) ∧ Own vars h0 [((some g2), .cells (flatC ((List.replicate p0.nodes.length (0 : Nat)).map i64)) false), ((some g4), .cells (flatC (v18.map i64)) false), (a19, .cells (flatC (v20.map i64)) false)] h ∧ True) (fun ((v18, v20), a19) => [(1, (FP (encCirc p0))), (5, (.slice (some ⟨g2, 0, none⟩) p0.nodes.length p0.nodes.length)), (6, (.slice (some ⟨g4, 0, none⟩) p0.nodes.length p0.nodes.length)), (7, (growV 1 a19 (v20.map i64))), (29, ((encL 4 encNode) p0.nodes)), (30, (i64 p0.nodes.length)), (31, (i64 v15))]) rfl (fun hm' => ?_) ?_
     ·replace hm := hm'
      apply Cs;((conv=>whnf);repeat (first|apply Cs|apply Hs|apply Hx);conv=>whnf)
      obtain ⟨x23, hx23, hm⟩ := hm
      refine flAtM (s := 4) (enc := encNode) (j := v15) rfl rfl rfl rfl hx23 ?_; ((conv=>whnf);repeat (first|apply Hs|apply Hx);conv=>whnf)
      refine ⟨_, (rfl : aread _ _ _ _ = some _), ?_⟩; ((conv=>whnf);repeat (first|apply Hs|apply Hx);conv=>whnf)
      refine O.new (anew_alloc (l := [(n8 0), (.slice none 0 0), (i64 0), (i64 0)]) rfl rfl rfl) fun g24 h O => ?_; ((conv=>whnf);repeat (first|apply Hs|apply Hx);conv=>whnf)
      refine O.store (n := 4) (cs' := [(n8 x23.kind), ((encL 1 i64) x23.ins), (i64 x23.mem), (i64 x23.bit)]) (.head _) rfl rfl rfl rfl (Nat.le_of_ble_eq_true rfl) rfl rfl fun h O => ?_; ((conv=>whnf);repeat (first|apply Hs|apply Hx);conv=>whnf)
      refine CodeS.joinWS hm (nn := 131) (σ := (List Nat) × Unit) (fun s => s.1) (fun (v26, _) h => (a13 = none → v14 = []) ∧ Own vars h0 [((some g2), .cells (flatC ((List.replicate p0.nodes.length (0 : Nat)).map i64)) false), ((some g4), .cells (flatC (v26.map i64)) false), (a13, .cells (flatC (v14.map i64)) false)] h ∧ True) (fun (v26, _) => [(1, (FP (encCirc p0))), (5, (.slice (some ⟨g2, 0, none⟩) p0.nodes.length p0.nodes.length)), (6, (.slice (some ⟨g4, 0, none⟩) p0.nodes.length p0.nodes.length)), (7, (growV 1 a13 (v14.map i64))), (8, (i64 v15)), (29, ((encL 4 encNode) p0.nodes)), (30, (i64 p0.nodes.length)), (31, (i64 v15))]) rfl (fun hm' => ?_) ?_
      ·replace hm := hm'
       apply Cs;((conv=>whnf);repeat (first|apply Cs|apply Hs|apply Hx);conv=>whnf)
       refine ⟨_, loadK rfl (O.at (.head _)) rfl rfl, ?_⟩; ((conv=>whnf);repeat (first|apply Hs|apply Hx);conv=>whnf)
       obtain ⟨r29, hm, hcall⟩ := netlists_Comb_walk hm O.has
       refine ⟨_, _, hcall, ?_⟩; ((conv=>whnf);repeat (first|apply Cs|apply Hs|apply Hx);conv=>whnf)
       refine ⟨_, rfl, fun hc => ?_, fun hc => ?_⟩
       ·replace hm := hm.1 hc
        apply Cs;((conv=>whnf);repeat (first|apply Cs|apply Hs|apply Hx);conv=>whnf)
        refine ⟨_, loadK rfl (O.at (.head _)) rfl rfl, ?_⟩; ((conv=>whnf);repeat (first|apply Hs|apply Hx);conv=>whnf)
        refine lenM (s := 1) (enc := i64) (l := x23.ins) rfl rfl ?_; ((conv=>whnf);repeat (first|apply Hs|apply Hx);conv=>whnf)
        obtain ⟨hj, x30, hx30, hm⟩ := hm
        refine indexK (s := 1) (j := v15) rfl rfl rfl rfl hj ?_; ((conv=>whnf);repeat (first|apply Hs|apply Hx);conv=>whnf)
        refine O.store (n := 1) (.tail _ (.tail _ (.head _))) rfl rfl rfl rfl (el_le (enc := i64) (s := 1) (k := 0) (n := 1) (fun _ => rfl) (lt_of_get hx30) (Nat.le_of_ble_eq_true rfl)) rfl (splice_all (enc := i64) (s := 1) (fun _ => rfl) (lt_of_get hx30) (x := x23.ins.length) rfl) fun h O => ?_; ((conv=>whnf);repeat (first|apply Hs|apply Hx);conv=>whnf)
        exact ⟨((v12.set v15 x23.ins.length), ()), hm, ⟨ha16, (O.sel [1, 2, 3] (by decide)), trivial⟩, VLe.refl _ _, VLe.refl _ _, VLe.refl _ _, VLe.refl _ _, VLe.refl _ _, VLe.refl _ _, VLe.refl _ _, VLe.refl _ _, trivial⟩
       ·replace hm := hm.2 hc
        apply Cs;((conv=>whnf);repeat (first|apply Cs|apply Hs|apply Hx);conv=>whnf)
        exact ⟨(v12, ()), hm, ⟨ha16, (O.sel [1, 2, 3] (by decide)), trivial⟩, VLe.refl _ _, VLe.refl _ _, VLe.refl _ _, VLe.refl _ _, VLe.refl _ _, VLe.refl _ _, VLe.refl _ _, VLe.refl _ _, trivial⟩
      ·clear hm; rintro ⟨v26, _⟩ base h hm ⟨ha27, O, _⟩
       ((conv=>whnf);repeat (first|apply Cs|apply Hs|apply Hx);conv=>whnf)
       obtain ⟨hj, x31, hx31, hm⟩ := hm
       refine indexK (s := 1) (j := v15) rfl rfl rfl rfl hj ?_; ((conv=>whnf);repeat (first|apply Hs|apply Hx);conv=>whnf)
       refine ⟨_, loadK rfl (O.at (.tail _ (.head _))) rfl (cell_map (enc := i64) (s := 1) (k := 0) (fun _ => rfl) hx31 rfl), ?_⟩; ((conv=>whnf);repeat (first|apply Cs|apply Hs|apply Hx);conv=>whnf)
       refine ⟨_, rfl, fun hc => ?_, fun hc => ?_⟩
       ·replace hm := hm.1 hc
        apply Cs;((conv=>whnf);repeat (first|apply Cs|apply Hs|apply Hx);conv=>whnf)
        refine NewG.frz rfl ?_; ((conv=>whnf);repeat (first|apply Hs|apply Hx);conv=>whnf)
        refine O.appendL (enc := i64) (l := v14) (new := ([v15] : (List Nat))) (s := 1) (b := 8) (.tail _ (.tail _ (.head _))) ha27 rfl rfl rfl rfl rfl rfl rfl rfl (YOk.fl rfl) (fun _ => rfl) (fun _ => rfl) (by decide) hm.1 fun a32 h ha33 O => ?_; ((conv=>whnf);repeat (first|apply Hs|apply Hx);conv=>whnf)
        replace hm := hm.2
        exact ⟨((v26, (v14 ++ ([v15] : (List Nat)))), a32), hm, ⟨ha33, O, trivial⟩, VLe.refl _ _, VLe.refl _ _, VLe.refl _ _, VLe.refl _ _, VLe.refl _ _, VLe.refl _ _, VLe.refl _ _, trivial⟩
       ·replace hm := hm.2 hc
        apply Cs;((conv=>whnf);repeat (first|apply Cs|apply Hs|apply Hx);conv=>whnf)
        exact ⟨((v26, v14), a13), hm, ⟨ha27, O, trivial⟩, VLe.refl _ _, VLe.refl _ _, VLe.refl _ _, VLe.refl _ _, VLe.refl _ _, VLe.refl _ _, VLe.refl _ _, trivial⟩
     ·clear hm; rintro ⟨⟨v18, v20⟩, a19⟩ base h hm ⟨ha21, O, _⟩
      ((conv=>whnf);repeat (first|apply Cs|apply Hs|apply Hx);conv=>whnf)
      refine ⟨_, addK (a := v15) (b := 1) rfl rfl hm.1, ?_⟩; ((conv=>whnf);repeat (first|apply Hs|apply Hx);conv=>whnf)
      replace hm := hm.2
      exact ⟨((v18, v20, (v15 + 1)), a19), hm, ⟨ha21, O, trivial⟩, VLe.refl _ _, VLe.refl _ _, VLe.refl _ _, VLe.refl _ _, VLe.refl _ _, VLe.refl _ _, VLe.refl _ _, trivial⟩
    ·replace hm := hm.2 hc
     apply Cs;((conv=>whnf);repeat (first|apply Cs|apply Hs|apply Hx);conv=>whnf)
     exact ⟨((v12, v14), a13), hm, ⟨ha16, O, trivial⟩, VLe.refl _ _, VLe.refl _ _, VLe.refl _ _, VLe.refl _ _, trivial⟩
   ·clear hm; rintro ⟨⟨v7, v9⟩, a8⟩ base h hm ⟨ha10, O, _⟩
    ((conv=>whnf);repeat (first|apply Cs|apply Hs|apply Hx);conv=>whnf)
    refine ⟨_, (rfl : aread _ _ _ _ = some _), ?_⟩; ((conv=>whnf);repeat (first|apply Hs|apply Hx);conv=>whnf)
    obtain ⟨r34, hm, hcall⟩ := netlists_Fanout_walk hm O.has
    refine ⟨_, _, hcall, ?_⟩; ((conv=>whnf);repeat (first|apply Hs|apply Hx);conv=>whnf)
    apply Cs;conv=>whnf
    apply Cs;((conv=>whnf);repeat (first|apply Hs|apply Hx);conv=>whnf)
    apply Cs;conv=>whnf
    apply Cs;conv=>whnf
    refine CodeS.joinWS hm (nn := 131) (σ := ((List Nat) × Nat) × Unit) (fun s => s.1) (fun ((v35, v36), _) h => Own vars h0 [((some g2), .cells (flatC (v35.map i64)) false)] h ∧ True) (fun ((v35, v36), _) => [(1, (FP (encCirc p0))), (5, (.slice (some ⟨g2, 0, none⟩) p0.nodes.length p0.nodes.length)), (11, (i64 v36))]) rfl (fun hm' => ?_) ?_
    ·replace hm := hm'
     apply Cs;((conv=>whnf);repeat (first|apply Cs|apply Hs|apply Hx);conv=>whnf)
     refine loopWK hM (by kernel_rfl) (nn := 131) (S := ((List Nat) × (List Nat) × (List Nat) × Nat)) (σ := ((List Nat) × (List Nat) × (List Nat) × Nat) × Option Nat) (fun s => s.1) (fun ((v38, v39, v41, v42), a40) h => (a40 = none → v41 = []) ∧ Own vars h0 [((some g2), .cells (flatC (v38.map i64)) false), ((some g4), .cells (flatC (v39.map i64)) false), (a40, .cells (flatC (v41.map i64)) false)] h ∧ True) (fun ((v38, v39, v41, v42), a40) => [(1, (FP (encCirc p0))), (5, (.slice (some ⟨g2, 0, none⟩) p0.nodes.length p0.nodes.length)), (6, (.slice (some ⟨g4, 0, none⟩) p0.nodes.length p0.nodes.length)), (7, (growV 1 a40 (v41.map i64))), (10, ((encL 1 (encL 2 encLn)) r34)), (11, (i64 v42))]) rfl (((List.replicate p0.nodes.length (0 : Nat)), v7, v9, 0), a8) hm ⟨ha10, O, trivial⟩ ⟨VLe.refl _ _, VLe.refl _ _, VLe.refl _ _, VLe.refl _ _, VLe.refl _ _, VLe.refl _ _, trivial⟩ ?_
     clear hm; rintro ⟨⟨v38, v39, v41, v42⟩, a40⟩ nx44 base h hm ⟨ha43, O, _⟩
     ((conv=>whnf);repeat (first|apply Cs|apply Hs|apply Hx);conv=>whnf)
     refine lenG (enc := i64) (l := v41) rfl rfl ?_; ((conv=>whnf);repeat (first|apply Cs|apply Hs|apply Hx);conv=>whnf)
     refine ⟨_, rfl, fun hc => ?_, fun hc => ?_⟩
     ·replace hm := hm.1 hc
      apply Cs;((conv=>whnf);repeat (first|apply Cs|apply Hs|apply Hx);conv=>whnf)
      obtain ⟨x45, hx45, hm⟩ := hm
      obtain ⟨g46, rfl⟩ := addr_some ha43 hx45
      refine indexK (s := 1) (j := v42) rfl rfl rfl rfl (by rw [List.length_map]; exact lt_of_get hx45) ?_; ((conv=>whnf);repeat (first|apply Hs|apply Hx);conv=>whnf)
      refine ⟨_, loadK rfl (O.at (.tail _ (.tail _ (.head _)))) rfl (cell_map (enc := i64) (s := 1) (k := 0) (fun _ => rfl) hx45 rfl), ?_⟩; ((conv=>whnf);repeat (first|apply Cs|apply Hs|apply Hx);conv=>whnf)
      refine ⟨_, addK (a := v42) (b := 1) rfl rfl hm.1, ?_⟩; ((conv=>whnf);repeat (first|apply Cs|apply Hs|apply Hx);conv=>whnf)
      replace hm := hm.2
      obtain ⟨x47, hx47, hm⟩ := hm
      refine flAtM (s := 1) (enc := (encL 2 encLn)) (j := x45) rfl rfl rfl rfl hx47 ?_; ((conv=>whnf);repeat (first|apply Hs|apply Hx);conv=>whnf)
      refine ⟨_, (rfl : aread _ _ _ _ = some _), ?_⟩; ((conv=>whnf);repeat (first|apply Hs|apply Hx);conv=>whnf)
      refine lenM (s := 2) (enc := encLn) (l := x47) rfl rfl ?_; ((conv=>whnf);repeat (first|apply Cs|apply Hs|apply Hx);conv=>whnf)
      refine ⟨_, rfl, fun hc => ?_, fun hc => ?_⟩
      ·replace hm := hm.1 hc
       apply Cs;((conv=>whnf);repeat (first|apply Cs|apply Hs|apply Hx);conv=>whnf)
       exact ⟨((v38, v39, v41, (v42 + 1)), (some g46)), hm, ⟨someNone, O, trivial⟩, VLe.refl _ _, VLe.refl _ _, VLe.refl _ _, VLe.refl _ _, VLe.refl _ _, VLe.refl _ _, trivial⟩
      ·replace hm := hm.2 hc
       apply Cs;((conv=>whnf);repeat (first|apply Cs|apply Hs|apply Hx);conv=>whnf)
       obtain ⟨x48, hx48, hm⟩ := hm
       refine flAtM (s := 1) (enc := (encL 2 encLn)) (j := x45) rfl rfl rfl rfl hx48 ?_; ((conv=>whnf);repeat (first|apply Hs|apply Hx);conv=>whnf)
       refine ⟨_, (rfl : aread _ _ _ _ = some _), ?_⟩; ((conv=>whnf);repeat (first|apply Hs|apply Hx);conv=>whnf)
       refine lenM (s := 2) (enc := encLn) (l := x48) rfl rfl ?_; ((conv=>whnf);repeat (first|apply Cs|apply Hs|apply Hx);conv=>whnf)
       refine loopWK hM (by kernel_rfl) (nn := 131) (S := ((List Nat) × (List Nat) × (List Nat) × Nat)) (σ := ((List Nat) × (List Nat) × (List Nat) × Nat) × Option Nat) (fun s => s.1) (fun ((v49, v50, v52, v53), a51) h => (a51 = none → v52 = []) ∧ Own vars h0 [((some g2), .cells (flatC (v49.map i64)) false), ((some g4), .cells (flatC (v50.map i64)) false), (a51, .cells (flatC (v52.map i64)) false)] h ∧ True) (fun ((v49, v50, v52, v53), a51) => [(1, (FP (encCirc p0))), (5, (.slice (some ⟨g2, 0, none⟩) p0.nodes.length p0.nodes.length)), (6, (.slice (some ⟨g4, 0, none⟩) p0.nodes.length p0.nodes.length)), (7, (growV 1 a51 (v52.map i64))), (10, ((encL 1 (encL 2 encLn)) r34)), (11, (i64 (v42 + 1))), (12, (i64 x45)), (76, ((encL 2 encLn) x48)), (77, (i64 x48.length)), (78, (i64 v53))]) rfl ((v38, v39, v41, 0), (some g46)) hm ⟨someNone, O, trivial⟩ ⟨VLe.refl _ _, VLe.refl _ _, VLe.refl _ _, VLe.refl _ _, VLe.refl _ _, VLe.refl _ _, VLe.refl _ _, VLe.refl _ _, VLe.refl _ _, VLe.refl _ _, trivial⟩ ?_
       clear hm; rintro ⟨⟨v49, v50, v52, v53⟩, a51⟩ nx55 base h hm ⟨ha54, O, _⟩
       ((conv=>whnf);repeat (first|apply Cs|apply Hs|apply Hx);conv=>whnf)
       refine ⟨_, rfl, fun hc => ?_, fun hc => ?_⟩
       ·replace hm := hm.1 hc
        apply Cs;conv=>whnf
        refine CodeS.joinWS hm (nn := 131) (σ := ((List Nat) × (List Nat) × (List Nat)) × Option Nat) (fun s => s.1) (fun ((v56, v57, v59), a58) h => (a58 = none → v59 = []) ∧ Own vars h0 [((some g2), .cells (flatC (v56.map i64)) false), ((some g4), .cells (flatC (v57.map i64)) false), (a58, .cells (flatC (v59.map i64)) false)] h ∧ True) (fun ((v56, v57, v59), a58) => [(1, (FP (encCirc p0))), (5, (.slice (some ⟨g2, 0, none⟩) p0.nodes.length p0.nodes.length)), (6, (.slice (some ⟨g4, 0, none⟩) p0.nodes.length p0.nodes.length)), (7, (growV 1 a58 (v59.map i64))), (10, ((encL 1 (encL 2 encLn)) r34)), (11, (i64 (v42 + 1))), (12, (i64 x45)), (76, ((encL 2 encLn) x48)), (77, (i64 x48.length)), (78, (i64 v53))]) rfl (fun hm' => ?_) ?_
        ·replace hm := hm'
         apply Cs;((conv=>whnf);repeat (first|apply Cs|apply Hs|apply Hx);conv=>whnf)
         obtain ⟨x62, hx62, hm⟩ := hm
         refine flAtM (s := 2) (enc := encLn) (j := v53) rfl rfl rfl rfl hx62 ?_; ((conv=>whnf);repeat (first|apply Hs|apply Hx);conv=>whnf)
         refine ⟨_, (rfl : aread _ _ _ _ = some _), ?_⟩; ((conv=>whnf);repeat (first|apply Hs|apply Hx);conv=>whnf)
         refine O.new (anew_alloc (l := [(i64 0), (i64 0)]) rfl rfl rfl) fun g63 h O => ?_; ((conv=>whnf);repeat (first|apply Hs|apply Hx);conv=>whnf)
         refine O.store (n := 2) (cs' := [(i64 x62.node), (i64 x62.pin)]) (.head _) rfl rfl rfl rfl (Nat.le_of_ble_eq_true rfl) rfl rfl fun h O => ?_; ((conv=>whnf);repeat (first|apply Cs|apply Hs|apply Hx);conv=>whnf)
         refine ⟨_, (rfl : aread _ _ _ _ = some _), ?_⟩; ((conv=>whnf);repeat (first|apply Hs|apply Hx);conv=>whnf)
         refine ⟨_, loadK rfl (O.at (.head _)) rfl rfl, ?_⟩; ((conv=>whnf);repeat (first|apply Hs|apply Hx);conv=>whnf)
         obtain ⟨x65, hx65, hm⟩ := hm
         refine flAtM (s := 4) (enc := encNode) (j := x62.node) rfl rfl rfl rfl hx65 ?_; ((conv=>whnf);repeat (first|apply Hs|apply Hx);conv=>whnf)
         refine ⟨_, (rfl : aread _ _ _ _ = some _), ?_⟩; ((conv=>whnf);repeat (first|apply Hs|apply Hx);conv=>whnf)
         obtain ⟨r66, hm, hcall⟩ := netlists_Comb_walk hm O.has
         refine ⟨_, _, hcall, ?_⟩; ((conv=>whnf);repeat (first|apply Cs|apply Hs|apply Hx);conv=>whnf)
         refine ⟨_, rfl, fun hc => ?_, fun hc => ?_⟩
         ·replace hm := hm.1 hc
          apply Cs;((conv=>whnf);repeat (first|apply Cs|apply Hs|apply Hx);conv=>whnf)
          exact ⟨((v49, v50, v52), a51), hm, ⟨ha54, (O.sel [1, 2, 3] (by decide)), trivial⟩, VLe.refl _ _, VLe.refl _ _, VLe.refl _ _, VLe.refl _ _, VLe.refl _ _, VLe.refl _ _, VLe.refl _ _, VLe.refl _ _, VLe.refl _ _, VLe.refl _ _, trivial⟩
         ·replace hm := hm.2 hc
          apply Cs;((conv=>whnf);repeat (first|apply Cs|apply Hs|apply Hx);conv=>whnf)
          refine ⟨_, loadK rfl (O.at (.head _)) rfl rfl, ?_⟩; ((conv=>whnf);repeat (first|apply Hs|apply Hx);conv=>whnf)
          refine ⟨.inl rfl, ?_⟩; ((conv=>whnf);repeat (first|apply Hs|apply Hx);conv=>whnf)
          refine ⟨_, loadK rfl (O.at (.head _)) rfl rfl, ?_⟩; ((conv=>whnf);repeat (first|apply Hs|apply Hx);conv=>whnf)
          refine ⟨.inl rfl, ?_⟩; ((conv=>whnf);repeat (first|apply Hs|apply Hx);conv=>whnf)
          obtain ⟨hj, x67, hx67, hm⟩ := hm
          refine indexK (s := 1) (j := x62.node) rfl rfl rfl rfl hj ?_; ((conv=>whnf);repeat (first|apply Hs|apply Hx);conv=>whnf)
          refine ⟨_, loadK rfl (O.at (.tail _ (.head _))) rfl (cell_map (enc := i64) (s := 1) (k := 0) (fun _ => rfl) hx67 rfl), ?_⟩; ((conv=>whnf);repeat (first|apply Hs|apply Hx);conv=>whnf)
          refine ⟨.inl rfl, ?_⟩; ((conv=>whnf);repeat (first|apply Hs|apply Hx);conv=>whnf)
          obtain ⟨hj, x68, hx68, hm⟩ := hm
          refine indexK (s := 1) (j := x45) rfl rfl rfl rfl hj ?_; ((conv=>whnf);repeat (first|apply Hs|apply Hx);conv=>whnf)
          refine ⟨_, loadK rfl (O.at (.tail _ (.head _))) rfl (cell_map (enc := i64) (s := 1) (k := 0) (fun _ => rfl) hx68 rfl), ?_⟩; ((conv=>whnf);repeat (first|apply Hs|apply Hx);conv=>whnf)
          refine ⟨.inl rfl, ?_⟩; ((conv=>whnf);repeat (first|apply Hs|apply Hx);conv=>whnf)
          refine ⟨_, addK (a := x68) (b := 1) rfl rfl hm.1, ?_⟩; ((conv=>whnf);repeat (first|apply Hs|apply Hx);conv=>whnf)
          replace hm := hm.2
          refine ⟨_, maxK (a := x67) (b := (x68 + 1)) rfl rfl, ?_⟩; ((conv=>whnf);repeat (first|apply Hs|apply Hx);conv=>whnf)
          obtain ⟨hj, x69, hx69, hm⟩ := hm
          refine indexK (s := 1) (j := x62.node) rfl rfl rfl rfl hj ?_; ((conv=>whnf);repeat (first|apply Hs|apply Hx);conv=>whnf)
          refine O.store (n := 1) (.tail _ (.head _)) rfl rfl rfl rfl (el_le (enc := i64) (s := 1) (k := 0) (n := 1) (fun _ => rfl) (lt_of_get hx69) (Nat.le_of_ble_eq_true rfl)) rfl (splice_all (enc := i64) (s := 1) (fun _ => rfl) (lt_of_get hx69) (x := (max x67 (x68 + 1))) rfl) fun h O => ?_; ((conv=>whnf);repeat (first|apply Hs|apply Hx);conv=>whnf)
          refine ⟨.inl rfl, ?_⟩; ((conv=>whnf);repeat (first|apply Hs|apply Hx);conv=>whnf)
          apply Cs;((conv=>whnf);repeat (first|apply Cs|apply Hs|apply Hx);conv=>whnf)
          refine ⟨_, loadK rfl (O.at (.head _)) rfl rfl, ?_⟩; ((conv=>whnf);repeat (first|apply Hs|apply Hx);conv=>whnf)
          obtain ⟨hj, x70, hx70, hm⟩ := hm
          refine indexK (s := 1) (j := x62.node) rfl rfl rfl rfl hj ?_; ((conv=>whnf);repeat (first|apply Hs|apply Hx);conv=>whnf)
          refine ⟨_, loadK rfl (O.at (.tail _ (.tail _ (.head _)))) rfl (cell_map (enc := i64) (s := 1) (k := 0) (fun _ => rfl) hx70 rfl), ?_⟩; ((conv=>whnf);repeat (first|apply Hs|apply Hx);conv=>whnf)
          refine ⟨_, subK (a := x70) (b := 1) rfl rfl hm.1 hm.2.1, ?_⟩; ((conv=>whnf);repeat (first|apply Hs|apply Hx);conv=>whnf)
          replace hm := hm.2.2
          obtain ⟨hj, x71, hx71, hm⟩ := hm
          refine indexK (s := 1) (j := x62.node) rfl rfl rfl rfl hj ?_; ((conv=>whnf);repeat (first|apply Hs|apply Hx);conv=>whnf)
          refine O.store (n := 1) (.tail _ (.tail _ (.head _))) rfl rfl rfl rfl (el_le (enc := i64) (s := 1) (k := 0) (n := 1) (fun _ => rfl) (lt_of_get hx71) (Nat.le_of_ble_eq_true rfl)) rfl (splice_all (enc := i64) (s := 1) (fun _ => rfl) (lt_of_get hx71) (x := (x70 - 1)) rfl) fun h O => ?_; ((conv=>whnf);repeat (first|apply Cs|apply Hs|apply Hx);conv=>whnf)
          refine ⟨_, loadK rfl (O.at (.head _)) rfl rfl, ?_⟩; ((conv=>whnf);repeat (first|apply Hs|apply Hx);conv=>whnf)
          obtain ⟨hj, x72, hx72, hm⟩ := hm
          refine indexK (s := 1) (j := x62.node) rfl rfl rfl rfl hj ?_; ((conv=>whnf);repeat (first|apply Hs|apply Hx);conv=>whnf)
          refine ⟨_, loadK rfl (O.at (.tail _ (.tail _ (.head _)))) rfl (cell_map (enc := i64) (s := 1) (k := 0) (fun _ => rfl) hx72 rfl), ?_⟩; ((conv=>whnf);repeat (first|apply Cs|apply Hs|apply Hx);conv=>whnf)
          refine ⟨_, rfl, fun hc => ?_, fun hc => ?_⟩
          ·replace hm := hm.1 hc
           apply Cs;((conv=>whnf);repeat (first|apply Cs|apply Hs|apply Hx);conv=>whnf)
           refine ⟨_, loadK rfl (O.at (.head _)) rfl rfl, ?_⟩; ((conv=>whnf);repeat (first|apply Hs|apply Hx);conv=>whnf)
           refine NewG.frz rfl ?_; ((conv=>whnf);repeat (first|apply Hs|apply Hx);conv=>whnf)
           refine O.appendL (enc := i64) (l := v52) (new := ([x62.node] : (List Nat))) (s := 1) (b := 8) (.tail _ (.tail _ (.tail _ (.head _)))) ha54 rfl rfl rfl rfl rfl rfl rfl rfl (YOk.fl rfl) (fun _ => rfl) (fun _ => rfl) (by decide) hm.1 fun a73 h ha74 O => ?_; ((conv=>whnf);repeat (first|apply Hs|apply Hx);conv=>whnf)
           replace hm := hm.2
           exact ⟨(((v49.set x62.node (max x67 (x68 + 1))), (v50.set x62.node (x70 - 1)), (v52 ++ ([x62.node] : (List Nat)))), a73), hm, ⟨ha74, (O.sel [1, 2, 3] (by decide)), trivial⟩, VLe.refl _ _, VLe.refl _ _, VLe.refl _ _, VLe.refl _ _, VLe.refl _ _, VLe.refl _ _, VLe.refl _ _, VLe.refl _ _, VLe.refl _ _, VLe.refl _ _, trivial⟩
          ·replace hm := hm.2 hc
           apply Cs;((conv=>whnf);repeat (first|apply Cs|apply Hs|apply Hx);conv=>whnf)
           exact ⟨(((v49.set x62.node (max x67 (x68 + 1))), (v50.set x62.node (x70 - 1)), v52), a51), hm, ⟨ha54, (O.sel [1, 2, 3] (by decide)), trivial⟩, VLe.refl _ _, VLe.refl _ _, VLe.refl _ _, VLe.refl _ _, VLe.refl _ _, VLe.refl _ _, VLe.refl _ _, VLe.refl _ _, VLe.refl _ _, VLe.refl _ _, trivial⟩
        ·clear hm; rintro ⟨⟨v56, v57, v59⟩, a58⟩ base h hm ⟨ha60, O, _⟩
         ((conv=>whnf);repeat (first|apply Cs|apply Hs|apply Hx);conv=>whnf)
         refine ⟨_, addK (a := v53) (b := 1) rfl rfl hm.1, ?_⟩; ((conv=>whnf);repeat (first|apply Hs|apply Hx);conv=>whnf)
         replace hm := hm.2
         exact ⟨((v56, v57, v59, (v53 + 1)), a58), hm, ⟨ha60, O, trivial⟩, VLe.refl _ _, VLe.refl _ _, VLe.refl _ _, VLe.refl _ _, VLe.refl _ _, VLe.refl _ _, VLe.refl _ _, VLe.refl _ _, VLe.refl _ _, VLe.refl _ _, trivial⟩
       ·replace hm := hm.2 hc
        apply Cs;((conv=>whnf);repeat (first|apply Cs|apply Hs|apply Hx);conv=>whnf)
        exact ⟨((v49, v50, v52, (v42 + 1)), a51), hm, ⟨ha54, O, trivial⟩, VLe.refl _ _, VLe.refl _ _, VLe.refl _ _, VLe.refl _ _, VLe.refl _ _, VLe.refl _ _, trivial⟩
     ·replace hm := hm.2 hc
      apply Cs;((conv=>whnf);repeat (first|apply Cs|apply Hs|apply Hx);conv=>whnf)
      exact ⟨((v38, v42), ()), hm, ⟨(O.sel [0] (by decide)), trivial⟩, VLe.refl _ _, VLe.refl _ _, VLe.refl _ _, trivial⟩
    ·clear hm; rintro ⟨⟨v35, v36⟩, _⟩ base h hm ⟨O, _⟩
     ((conv=>whnf);repeat (first|apply Cs|apply Hs|apply Hx);conv=>whnf)
     refine ⟨_, (rfl : aread _ _ _ _ = some _), ?_⟩; ((conv=>whnf);repeat (first|apply Hs|apply Hx);conv=>whnf)
     refine lenM (s := 4) (enc := encNode) (l := p0.nodes) rfl rfl ?_; ((conv=>whnf);repeat (first|apply Cs|apply Hs|apply Hx);conv=>whnf)
     refine ⟨_, rfl, fun hc => ?_, fun hc => ?_⟩
     ·replace hm := hm.1 hc
      apply Cs;((conv=>whnf);repeat (first|apply Cs|apply Hs|apply Hx);conv=>whnf)
      exact ⟨([], 6), hm, O.ext, fun h2 F => VLe.tup (LLe.cons (VLe.nil _ _) (LLe.cons (VLe.refl _ _) (LLe.nil _)))⟩
     ·replace hm := hm.2 hc
      apply Cs;((conv=>whnf);repeat (first|apply Cs|apply Hs|apply Hx);conv=>whnf)
      obtain ⟨hn75, hm⟩ := hm
      exact ⟨(v35, 0), hm, O.ext, fun h2 F => VLe.tup (LLe.cons (O.flatL F (Nat.le_refl _) (.head _) (fun _ => rfl) hn75) (LLe.cons (VLe.refl _ _) (LLe.nil _)))⟩
def netlists_Check_wp (p0 : Circ) (K : Nat → Prop) : Prop :=
  netlists_Levels_wp p0 (fun r1 => K r1.2)
theorem netlists_Check_walk {p0 : Circ} {K : Nat → Prop} (hm : netlists_Check_wp p0 K) {h0 : Heap} (hB : HasB vars h0) : ∃ r, K r ∧ CallD Tryd.prog NG 7 ⟨[encCirc p0]⟩ h0 (i64 r) h0 := by
  unfold netlists_Check_wp at hm
  refine fnW hM Tryd.func7 rfl (hP _ _ rfl Tryd.func7) (Nat.le_of_ble_eq_true rfl) hB (enc := i64) (fun r => PureV.flat rfl) fun O => ?_; conv=>whnf
  apply Cs;((conv=>whnf);repeat (first|apply Cs|apply Hs|apply Hx);conv=>whnf)
  refine NewG.frz rfl ?_; ((conv=>whnf);repeat (first|apply Cs|apply Hs|apply Hx);conv=>whnf)
  refine ⟨_, (rfl : aread _ _ _ _ = some _), ?_⟩; ((conv=>whnf);repeat (first|apply Hs|apply Hx);conv=>whnf)
  obtain ⟨r1, hm, hcall⟩ := netlists_Levels_walk hm O.has
  refine ⟨_, _, hcall, ?_⟩; ((conv=>whnf);repeat (first|apply Cs|apply Hs|apply Hx);conv=>whnf)
  exact ⟨r1.2, hm, O.ext, fun h2 F => VLe.refl _ _⟩
end Go.Proofs.YtfhldkgelipnaaaDoor
