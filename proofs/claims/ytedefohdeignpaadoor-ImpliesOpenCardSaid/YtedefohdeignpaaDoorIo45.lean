/-
  I1: parts of the proof.
-/
import Derived.Test.YtedefohdeignpaaDoorIo44
namespace Go.Proofs.YtedefohdeignpaaDoor
open Go.Abs
set_option maxRecDepth 100000
def implies_Plain_wp (p0 : Circ) (K : Nat → Prop) : Prop :=
  netlists_Check_wp p0 (fun r1 => ((neN r1 0) = true → K r1) ∧ ((neN r1 0) = false → joinW (α := Bool) (fun k3 => ((ltN 0 p0.mems.length) = true → k3 true) ∧ ((ltN 0 p0.mems.length) = false → netlists_Of_wp p0 ([12, 13, 15] : (List Nat)) (fun r4 => k3 (ltN 0 r4.length)))) (fun v2 => (v2 = true → K 7) ∧ (v2 = false → K 0))))
set_option maxHeartbeats 8000000 in
theorem implies_Plain_walk {p0 : Circ} {K : Nat → Prop} (hm : implies_Plain_wp p0 K) {h0 : Heap} (hB : HasB vars h0) : ∃ r, K r ∧ CallD Tryd.prog NG 17 ⟨[encCirc p0]⟩ h0 (i64 r) h0 := by
  unfold implies_Plain_wp at hm
  refine fnW hM Tryd.func17 rfl (hP _ _ rfl Tryd.func17) (Nat.le_of_ble_eq_true rfl) hB (enc := i64) (fun r => PureV.flat rfl) fun O => ?_;(conv=>whnf)
  refine CodeS.step ?_;(conv=>whnf)
  refine CodeS.step ?_; ((conv=>whnf); repeat ((first|refine RegS.stepH ?_|refine RegXS.stepH ?_);(conv=>whnf)))
  refine NewG.frz rfl ?_; ((conv=>whnf); repeat ((first|refine RegS.stepH ?_|refine RegXS.stepH ?_);(conv=>whnf)))
  refine CodeS.step ?_;(conv=>whnf)
  refine CodeS.step ?_;(conv=>whnf)
  refine CodeS.step ?_; ((conv=>whnf); repeat ((first|refine RegS.stepH ?_|refine RegXS.stepH ?_);(conv=>whnf)))
  refine ⟨_, (rfl : aread _ _ _ _ = some _), ?_⟩; ((conv=>whnf); repeat ((first|refine RegS.stepH ?_|refine RegXS.stepH ?_);(conv=>whnf)))
  obtain ⟨r1, hm, hcall⟩ := netlists_Check_walk hm O.has
  refine ⟨_, _, hcall, ?_⟩; ((conv=>whnf); repeat ((first|refine RegS.stepH ?_|refine RegXS.stepH ?_);(conv=>whnf)))
  refine CodeS.step ?_;(conv=>whnf)
  refine CodeS.step ?_; ((conv=>whnf); repeat ((first|refine RegS.stepH ?_|refine RegXS.stepH ?_);(conv=>whnf)))
  refine CodeS.step ?_;(conv=>whnf)
  refine ⟨_, rfl, fun hc => ?_, fun hc => ?_⟩
  · replace hm := hm.1 hc
    refine CodeS.step ?_;(conv=>whnf)
    refine CodeS.step ?_; ((conv=>whnf); repeat ((first|refine RegS.stepH ?_|refine RegXS.stepH ?_);(conv=>whnf)))
    refine CodeS.step ?_;(conv=>whnf)
    exact ⟨r1, hm, O.ext, fun h2 F => VLe.refl _ _⟩
  · replace hm := hm.2 hc
    refine CodeS.step ?_;(conv=>whnf)
    refine CodeS.step ?_;(conv=>whnf)
    refine CodeS.joinWS hm (nn := 20) (σ := Bool × Unit) (fun s => s.1) (fun (v2, _) h => Own vars h0 [] h ∧ True) (fun (v2, _) => [(19, (.bool v2))]) rfl (fun hm' => ?_) ?_
    · replace hm := hm'
      refine CodeS.step ?_; ((conv=>whnf); repeat ((first|refine RegS.stepH ?_|refine RegXS.stepH ?_);(conv=>whnf)))
      refine ⟨_, (rfl : aread _ _ _ _ = some _), ?_⟩; ((conv=>whnf); repeat ((first|refine RegS.stepH ?_|refine RegXS.stepH ?_);(conv=>whnf)))
      refine lenM (s := 3) (enc := encMem) (l := p0.mems) rfl rfl ?_; ((conv=>whnf); repeat ((first|refine RegS.stepH ?_|refine RegXS.stepH ?_);(conv=>whnf)))
      refine ⟨_, rfl, fun hc => ?_, fun hc => ?_⟩
      · replace hm := hm.1 hc; ((conv=>whnf); repeat ((first|refine RegS.stepH ?_|refine RegXS.stepH ?_);(conv=>whnf)))
        exact ⟨(true, ()), hm, ⟨O, trivial⟩, VLe.refl _ _, trivial⟩
      · replace hm := hm.2 hc; ((conv=>whnf); repeat ((first|refine RegS.stepH ?_|refine RegXS.stepH ?_);(conv=>whnf)))
        refine ⟨_, (rfl : aread _ _ _ _ = some _), ?_⟩; ((conv=>whnf); repeat ((first|refine RegS.stepH ?_|refine RegXS.stepH ?_);(conv=>whnf)))
        refine NewG.frz rfl ?_; ((conv=>whnf); repeat ((first|refine RegS.stepH ?_|refine RegXS.stepH ?_);(conv=>whnf)))
        obtain ⟨r4, hm, hcall⟩ := netlists_Of_walk hm O.has
        refine ⟨_, _, hcall, ?_⟩; ((conv=>whnf); repeat ((first|refine RegS.stepH ?_|refine RegXS.stepH ?_);(conv=>whnf)))
        refine lenM (s := 1) (enc := i64) (l := r4) rfl rfl ?_; ((conv=>whnf); repeat ((first|refine RegS.stepH ?_|refine RegXS.stepH ?_);(conv=>whnf)))
        exact ⟨((ltN 0 r4.length), ()), hm, ⟨O, trivial⟩, VLe.refl _ _, trivial⟩
    · clear hm; rintro ⟨v2, _⟩ base h hm ⟨O, _⟩
      (conv=>whnf)
      refine CodeS.step ?_;(conv=>whnf)
      refine ⟨_, rfl, fun hc => ?_, fun hc => ?_⟩
      · replace hm := hm.1 hc
        refine CodeS.step ?_;(conv=>whnf)
        refine CodeS.step ?_; ((conv=>whnf); repeat ((first|refine RegS.stepH ?_|refine RegXS.stepH ?_);(conv=>whnf)))
        refine CodeS.step ?_;(conv=>whnf)
        exact ⟨7, hm, O.ext, fun h2 F => VLe.refl _ _⟩
      · replace hm := hm.2 hc
        refine CodeS.step ?_;(conv=>whnf)
        refine CodeS.step ?_;(conv=>whnf)
        refine CodeS.step ?_; ((conv=>whnf); repeat ((first|refine RegS.stepH ?_|refine RegXS.stepH ?_);(conv=>whnf)))
        refine CodeS.step ?_;(conv=>whnf)
        exact ⟨0, hm, O.ext, fun h2 F => VLe.refl _ _⟩
def implies_free_wp (p0 : Nat) (K : Bool → Prop) : Prop :=
  ((eqN p0 0) = true → K true) ∧ ((eqN p0 0) = false → K (eqN p0 14))
set_option maxHeartbeats 8000000 in
theorem implies_free_walk {p0 : Nat} {K : Bool → Prop} (hm : implies_free_wp p0 K) {h0 : Heap} (hB : HasB vars h0) : ∃ r, K r ∧ CallD Tryd.prog NG 43 ⟨[n8 p0]⟩ h0 (Value.bool r) h0 := by
  unfold implies_free_wp at hm
  refine fnW hM Tryd.func43 rfl (hP _ _ rfl Tryd.func43) (Nat.le_of_ble_eq_true rfl) hB (enc := Value.bool) (fun r => PureV.flat rfl) fun O => ?_;(conv=>whnf)
  refine CodeS.step ?_;(conv=>whnf)
  refine CodeS.step ?_; ((conv=>whnf); repeat ((first|refine RegS.stepH ?_|refine RegXS.stepH ?_);(conv=>whnf)))
  refine CodeS.step ?_;(conv=>whnf)
  refine CodeS.step ?_; ((conv=>whnf); repeat ((first|refine RegS.stepH ?_|refine RegXS.stepH ?_);(conv=>whnf)))
  refine ⟨_, rfl, fun hc => ?_, fun hc => ?_⟩
  · replace hm := hm.1 hc; ((conv=>whnf); repeat ((first|refine RegS.stepH ?_|refine RegXS.stepH ?_);(conv=>whnf)))
    refine CodeS.step ?_;(conv=>whnf)
    exact ⟨true, hm, O.ext, fun h2 F => VLe.refl _ _⟩
  · replace hm := hm.2 hc; ((conv=>whnf); repeat ((first|refine RegS.stepH ?_|refine RegXS.stepH ?_);(conv=>whnf)))
    refine CodeS.step ?_;(conv=>whnf)
    exact ⟨(eqN p0 14), hm, O.ext, fun h2 F => VLe.refl _ _⟩
def cf_aboveI_wp (p0 : (List Nat)) (K : Int → Prop) : Prop :=
  joinW (α := Unit) (fun k1 => loopW (S := Nat) (fun v2 nx3 => ((ltN v2 p0.length) = true → ∃ x4, p0[v2]? = some x4 ∧ ((ltN 2 x4) = true → K (Int.ofNat v2)) ∧ ((ltN 2 x4) = false → v2 + 1 < 2 ^ 63 ∧ nx3 (v2 + 1))) ∧ ((ltN v2 p0.length) = false → k1 ())) 0) (fun _ => K (Int.negSucc 0))
set_option maxHeartbeats 8000000 in
theorem cf_aboveI_walk {p0 : (List Nat)} {K : Int → Prop} (hm : cf_aboveI_wp p0 K) {h0 : Heap} (hB : HasB vars h0) : ∃ r, K r ∧ CallD Tryd.prog NG 54 ⟨[(encL 1 n8) p0, (.func (.func 46) ⟨[]⟩ ⟨[]⟩)]⟩ h0 (z64 r) h0 := by
  unfold cf_aboveI_wp at hm
  refine fnW hM Tryd.func54 rfl (hP _ _ rfl Tryd.func54) (Nat.le_of_ble_eq_true rfl) hB (enc := z64) (fun r => PureV.flat rfl) fun O => ?_;(conv=>whnf)
  refine CodeS.step ?_;(conv=>whnf)
  refine CodeS.step ?_; ((conv=>whnf); repeat ((first|refine RegS.stepH ?_|refine RegXS.stepH ?_);(conv=>whnf)))
  refine CodeS.joinWS hm (nn := 19) (σ := Unit × Unit) (fun s => s.1) (fun (_, _) h => Own vars h0 [] h ∧ True) (fun (_, _) => []) rfl (fun hm' => ?_) ?_
  · replace hm := hm'
    refine CodeS.step ?_;(conv=>whnf)
    refine CodeS.step ?_; ((conv=>whnf); repeat ((first|refine RegS.stepH ?_|refine RegXS.stepH ?_);(conv=>whnf)))
    refine lenM (s := 1) (enc := n8) (l := p0) rfl rfl ?_; ((conv=>whnf); repeat ((first|refine RegS.stepH ?_|refine RegXS.stepH ?_);(conv=>whnf)))
    refine CodeS.step ?_;(conv=>whnf)
    refine CodeS.step ?_;(conv=>whnf)
    refine loopWK hM (by kernel_rfl) (nn := 19) (S := Nat) (σ := Nat × Unit) (fun s => s.1) (fun (v2, _) h => Own vars h0 [] h ∧ True) (fun (v2, _) => [(0, ((encL 1 n8) p0)), (1, (.func (.func 46) ⟨[]⟩ ⟨[]⟩)), (7, (i64 p0.length)), (8, (i64 v2))]) rfl (0, ()) hm ⟨O, trivial⟩ ⟨VLe.refl _ _, VLe.refl _ _, VLe.refl _ _, VLe.refl _ _, trivial⟩ ?_
    clear hm; rintro ⟨v2, _⟩ nx3 base h hm ⟨O, _⟩
    (conv=>whnf)
    refine CodeS.step ?_;(conv=>whnf)
    refine CodeS.step ?_; ((conv=>whnf); repeat ((first|refine RegS.stepH ?_|refine RegXS.stepH ?_);(conv=>whnf)))
    refine CodeS.step ?_;(conv=>whnf)
    refine CodeS.step ?_;(conv=>whnf)
    refine ⟨_, rfl, fun hc => ?_, fun hc => ?_⟩
    · replace hm := hm.1 hc
      refine CodeS.step ?_;(conv=>whnf)
      refine CodeS.step ?_;(conv=>whnf)
      refine CodeS.step ?_;(conv=>whnf)
      refine CodeS.step ?_;(conv=>whnf)
      refine CodeS.step ?_; ((conv=>whnf); repeat ((first|refine RegS.stepH ?_|refine RegXS.stepH ?_);(conv=>whnf)))
      refine CodeS.step ?_;(conv=>whnf)
      refine CodeS.step ?_; ((conv=>whnf); repeat ((first|refine RegS.stepH ?_|refine RegXS.stepH ?_);(conv=>whnf)))
      obtain ⟨x4, hx4, hm⟩ := hm
      refine flAtM (s := 1) (enc := n8) (j := v2) rfl rfl rfl rfl hx4 ?_; ((conv=>whnf); repeat ((first|refine RegS.stepH ?_|refine RegXS.stepH ?_);(conv=>whnf)))
      refine ⟨_, (rfl : aread _ _ _ _ = some _), ?_⟩; ((conv=>whnf); repeat ((first|refine RegS.stepH ?_|refine RegXS.stepH ?_);(conv=>whnf)))
      refine fnG hM Tryd.func46 rfl (hP _ _ rfl Tryd.func46) (Nat.le_of_ble_eq_true rfl) ?_;(conv=>whnf)
      refine CodeS.step ?_;(conv=>whnf)
      refine CodeS.step ?_; ((conv=>whnf); repeat ((first|refine RegS.stepH ?_|refine RegXS.stepH ?_);(conv=>whnf)))
      refine CodeS.step ?_;(conv=>whnf)
      refine CodeS.step ?_; ((conv=>whnf); repeat ((first|refine RegS.stepH ?_|refine RegXS.stepH ?_);(conv=>whnf)))
      refine CodeS.step ?_;(conv=>whnf)
      ((conv=>whnf); repeat ((first|refine RegS.stepH ?_|refine RegXS.stepH ?_);(conv=>whnf)))
      refine CodeS.step ?_;(conv=>whnf)
      refine ⟨_, rfl, fun hc => ?_, fun hc => ?_⟩
      · replace hm := hm.1 hc
        refine CodeS.step ?_;(conv=>whnf)
        refine CodeS.step ?_; ((conv=>whnf); repeat ((first|refine RegS.stepH ?_|refine RegXS.stepH ?_);(conv=>whnf)))
        refine CodeS.step ?_;(conv=>whnf)
        exact ⟨(Int.ofNat v2), hm, O.ext, fun h2 F => VLe.refl _ _⟩
      · replace hm := hm.2 hc
        refine CodeS.step ?_;(conv=>whnf)
        refine CodeS.step ?_; ((conv=>whnf); repeat ((first|refine RegS.stepH ?_|refine RegXS.stepH ?_);(conv=>whnf)))
        refine ⟨_, addK (a := v2) (b := 1) rfl rfl hm.1, ?_⟩; ((conv=>whnf); repeat ((first|refine RegS.stepH ?_|refine RegXS.stepH ?_);(conv=>whnf)))
        replace hm := hm.2
        exact ⟨((v2 + 1), ()), hm, ⟨O, trivial⟩, VLe.refl _ _, VLe.refl _ _, VLe.refl _ _, VLe.refl _ _, trivial⟩
    · replace hm := hm.2 hc
      refine CodeS.step ?_;(conv=>whnf)
      exact ⟨((), ()), hm, ⟨O, trivial⟩, trivial⟩
  · clear hm; rintro ⟨_, _⟩ base h hm ⟨O, _⟩
    (conv=>whnf)
    refine CodeS.step ?_;(conv=>whnf)
    refine CodeS.step ?_; ((conv=>whnf); repeat ((first|refine RegS.stepH ?_|refine RegXS.stepH ?_);(conv=>whnf)))
    refine CodeS.step ?_;(conv=>whnf)
    exact ⟨(Int.negSucc 0), hm, O.ext, fun h2 F => VLe.refl _ _⟩
def cf_above_wp (p0 : (List Nat)) (K : Bool → Prop) : Prop :=
  cf_aboveI_wp p0 (fun r1 => K (!ltI r1 (Int.ofNat 0)))
set_option maxHeartbeats 8000000 in
theorem cf_above_walk {p0 : (List Nat)} {K : Bool → Prop} (hm : cf_above_wp p0 K) {h0 : Heap} (hB : HasB vars h0) : ∃ r, K r ∧ CallD Tryd.prog NG 45 ⟨[(encL 1 n8) p0, (.func (.func 46) ⟨[]⟩ ⟨[]⟩)]⟩ h0 (Value.bool r) h0 := by
  unfold cf_above_wp at hm
  refine fnW hM Tryd.func45 rfl (hP _ _ rfl Tryd.func45) (Nat.le_of_ble_eq_true rfl) hB (enc := Value.bool) (fun r => PureV.flat rfl) fun O => ?_;(conv=>whnf)
  refine CodeS.step ?_;(conv=>whnf)
  refine CodeS.step ?_; ((conv=>whnf); repeat ((first|refine RegS.stepH ?_|refine RegXS.stepH ?_);(conv=>whnf)))
  refine CodeS.step ?_;(conv=>whnf)
  refine CodeS.step ?_; ((conv=>whnf); repeat ((first|refine RegS.stepH ?_|refine RegXS.stepH ?_);(conv=>whnf)))
  obtain ⟨r1, hm, hcall⟩ := cf_aboveI_walk hm O.has
  refine ⟨_, _, hcall, ?_⟩; ((conv=>whnf); repeat ((first|refine RegS.stepH ?_|refine RegXS.stepH ?_);(conv=>whnf)))
  refine CodeS.step ?_;(conv=>whnf)
  exact ⟨(!ltI r1 (Int.ofNat 0)), hm, O.ext, fun h2 F => VLe.refl _ _⟩
def implies_Unjustified_wp (p0 : Circ) (p1 : (List Nat)) (K : ((List Nat) × Nat) → Prop) : Prop :=
  implies_Plain_wp p0 (fun r1 => ((neN r1 0) = true → K ([], r1)) ∧ ((neN r1 0) = false → ((neN p1.length p0.nodes.length) = true → K ([], 8)) ∧ ((neN p1.length p0.nodes.length) = false → cf_above_wp p1 (fun r2 => (r2 = true → K ([], 1)) ∧ (r2 = false → joinW (α := (List Nat)) (fun k7 => loopW (S := ((List Nat) × Nat)) (fun (v9, v10) nx12 => ((ltN v10 p0.nodes.length) = true → joinW (α := (List Nat)) (fun k16 => ∃ x17, p0.nodes[v10]? = some x17 ∧ 1 * x17.ins.length ≤ 2 ^ 48 ∧ x17.ins.length < 2 ^ 63 ∧ joinW (α := (List Nat)) (fun k24 => loopW (S := ((List Nat) × Nat)) (fun (v25, v26) nx28 => ((ltN v26 x17.ins.length) = true → ∃ x29, x17.ins[v26]? = some x29 ∧ ∃ x30, p1[x29]? = some x30 ∧ v26 < x17.ins.length ∧ ∃ x31, v25[v26]? = some x31 ∧ v26 + 1 < 2 ^ 63 ∧ nx28 ((v25.set v26 x30), (v26 + 1))) ∧ ((ltN v26 x17.ins.length) = false → k24 v25)) ((List.replicate x17.ins.length (0 : Nat)), 0)) (fun v22 => joinW (α := Bool) (fun k34 => implies_free_wp x17.kind (fun r35 => ((!r35) = true → ∃ x36, p1[v10]? = some x36 ∧ ((neN x36 2) = true → x17.ins.length = v22.length ∧ logic_Eval_wp x17.kind v22 (fun r37 => ∃ x39, p1[v10]? = some x39 ∧ k34 (neN r37 x39))) ∧ ((neN x36 2) = false → k34 false)) ∧ ((!r35) = false → k34 false))) (fun v32 => (v32 = true → (v9.length + ([v10] : (List Nat)).length) * 8 ≤ 2 ^ 47 ∧ k16 (v9 ++ ([v10] : (List Nat)))) ∧ (v32 = false → k16 v9)))) (fun v14 => v10 + 1 < 2 ^ 63 ∧ nx12 (v14, (v10 + 1)))) ∧ ((ltN v10 p0.nodes.length) = false → k7 v9)) (([] : List Nat), 0)) (fun v5 => K (v5, 0)))))))
set_option maxHeartbeats 8000000 in
theorem implies_Unjustified_walk {p0 : Circ} {p1 : (List Nat)} {K : ((List Nat) × Nat) → Prop} (hm : implies_Unjustified_wp p0 p1 K) {h0 : Heap} (hB : HasB vars h0) : ∃ r, K r ∧ CallD Tryd.prog NG 16 ⟨[encCirc p0, (encL 1 n8) p1]⟩ h0 ((fun (r : ((List Nat) × Nat)) => Value.tuple ⟨[(encL 1 i64) (r.1), i64 (r.2)]⟩) r) h0 := by
  unfold implies_Unjustified_wp at hm
  refine fnW hM Tryd.func16 rfl (hP _ _ rfl Tryd.func16) (Nat.le_of_ble_eq_true rfl) hB (enc := (fun (r : ((List Nat) × Nat)) => Value.tuple ⟨[(encL 1 i64) (r.1), i64 (r.2)]⟩)) (fun r => PureV.tup (AllPure.cons (pureL (fun _ => AllPure.cons (PureV.flat rfl) AllPure.nil)) (AllPure.cons (PureV.flat rfl) (AllPure.nil)))) fun O => ?_;(conv=>whnf)
  refine CodeS.step ?_;(conv=>whnf)
  refine CodeS.step ?_; ((conv=>whnf); repeat ((first|refine RegS.stepH ?_|refine RegXS.stepH ?_);(conv=>whnf)))
  refine NewG.frz rfl ?_; ((conv=>whnf); repeat ((first|refine RegS.stepH ?_|refine RegXS.stepH ?_);(conv=>whnf)))
  refine CodeS.step ?_;(conv=>whnf)
  refine CodeS.step ?_;(conv=>whnf)
  refine CodeS.step ?_; ((conv=>whnf); repeat ((first|refine RegS.stepH ?_|refine RegXS.stepH ?_);(conv=>whnf)))
  refine ⟨_, (rfl : aread _ _ _ _ = some _), ?_⟩; ((conv=>whnf); repeat ((first|refine RegS.stepH ?_|refine RegXS.stepH ?_);(conv=>whnf)))
  obtain ⟨r1, hm, hcall⟩ := implies_Plain_walk hm O.has
  refine ⟨_, _, hcall, ?_⟩; ((conv=>whnf); repeat ((first|refine RegS.stepH ?_|refine RegXS.stepH ?_);(conv=>whnf)))
  refine CodeS.step ?_;(conv=>whnf)
  refine CodeS.step ?_; ((conv=>whnf); repeat ((first|refine RegS.stepH ?_|refine RegXS.stepH ?_);(conv=>whnf)))
  refine CodeS.step ?_;(conv=>whnf)
  refine ⟨_, rfl, fun hc => ?_, fun hc => ?_⟩
  · replace hm := hm.1 hc
    refine CodeS.step ?_;(conv=>whnf)
    refine CodeS.step ?_; ((conv=>whnf); repeat ((first|refine RegS.stepH ?_|refine RegXS.stepH ?_);(conv=>whnf)))
    refine CodeS.step ?_;(conv=>whnf)
    exact ⟨([], r1), hm, O.ext, fun h2 F => VLe.tup (LLe.cons (VLe.nil _ _) (LLe.cons (VLe.refl _ _) (LLe.nil _)))⟩
  · replace hm := hm.2 hc
    refine CodeS.step ?_;(conv=>whnf)
    refine CodeS.step ?_;(conv=>whnf)
    refine CodeS.step ?_;(conv=>whnf)
    refine CodeS.step ?_; ((conv=>whnf); repeat ((first|refine RegS.stepH ?_|refine RegXS.stepH ?_);(conv=>whnf)))
    refine lenM (s := 1) (enc := n8) (l := p1) rfl rfl ?_; ((conv=>whnf); repeat ((first|refine RegS.stepH ?_|refine RegXS.stepH ?_);(conv=>whnf)))
    refine ⟨_, (rfl : aread _ _ _ _ = some _), ?_⟩; ((conv=>whnf); repeat ((first|refine RegS.stepH ?_|refine RegXS.stepH ?_);(conv=>whnf)))
    refine lenM (s := 4) (enc := encNode) (l := p0.nodes) rfl rfl ?_; ((conv=>whnf); repeat ((first|refine RegS.stepH ?_|refine RegXS.stepH ?_);(conv=>whnf)))
    refine CodeS.step ?_;(conv=>whnf)
    refine ⟨_, rfl, fun hc => ?_, fun hc => ?_⟩
    · replace hm := hm.1 hc
      refine CodeS.step ?_;(conv=>whnf)
      refine CodeS.step ?_; ((conv=>whnf); repeat ((first|refine RegS.stepH ?_|refine RegXS.stepH ?_);(conv=>whnf)))
      refine CodeS.step ?_;(conv=>whnf)
      exact ⟨([], 8), hm, O.ext, fun h2 F => VLe.tup (LLe.cons (VLe.nil _ _) (LLe.cons (VLe.refl _ _) (LLe.nil _)))⟩
    · replace hm := hm.2 hc
      refine CodeS.step ?_;(conv=>whnf)
      refine CodeS.step ?_;(conv=>whnf)
      refine CodeS.step ?_;(conv=>whnf)
      refine CodeS.step ?_; ((conv=>whnf); repeat ((first|refine RegS.stepH ?_|refine RegXS.stepH ?_);(conv=>whnf)))
      obtain ⟨r2, hm, hcall⟩ := cf_above_walk hm O.has
      refine ⟨_, _, hcall, ?_⟩; ((conv=>whnf); repeat ((first|refine RegS.stepH ?_|refine RegXS.stepH ?_);(conv=>whnf)))
      refine CodeS.step ?_;(conv=>whnf)
      refine ⟨_, rfl, fun hc => ?_, fun hc => ?_⟩
      · replace hm := hm.1 hc
        refine CodeS.step ?_;(conv=>whnf)
        refine CodeS.step ?_; ((conv=>whnf); repeat ((first|refine RegS.stepH ?_|refine RegXS.stepH ?_);(conv=>whnf)))
        refine CodeS.step ?_;(conv=>whnf)
        exact ⟨([], 1), hm, O.ext, fun h2 F => VLe.tup (LLe.cons (VLe.nil _ _) (LLe.cons (VLe.refl _ _) (LLe.nil _)))⟩
      · replace hm := hm.2 hc
        refine CodeS.step ?_;(conv=>whnf)
        refine CodeS.step ?_;(conv=>whnf)
        refine CodeS.step ?_; ((conv=>whnf); repeat ((first|refine RegS.stepH ?_|refine RegXS.stepH ?_);(conv=>whnf)))
        have O := O.addNil (.cells (flatC ((([] : List Nat)).map i64)) false)
        refine CodeS.joinWS hm (nn := 83) (σ := (List Nat) × Option Nat) (fun s => s.1) (fun (v5, a4) h => (a4 = none → v5 = []) ∧ Own vars h0 [(a4, .cells (flatC (v5.map i64)) false)] h ∧ True) (fun (v5, a4) => [(7, (growV 1 a4 (v5.map i64)))]) rfl (fun hm' => ?_) ?_
        · replace hm := hm'
          refine CodeS.step ?_;(conv=>whnf)
          refine CodeS.step ?_; ((conv=>whnf); repeat ((first|refine RegS.stepH ?_|refine RegXS.stepH ?_);(conv=>whnf)))
          refine ⟨_, (rfl : aread _ _ _ _ = some _), ?_⟩; ((conv=>whnf); repeat ((first|refine RegS.stepH ?_|refine RegXS.stepH ?_);(conv=>whnf)))
          refine lenM (s := 4) (enc := encNode) (l := p0.nodes) rfl rfl ?_; ((conv=>whnf); repeat ((first|refine RegS.stepH ?_|refine RegXS.stepH ?_);(conv=>whnf)))
          refine CodeS.step ?_;(conv=>whnf)
          refine CodeS.step ?_;(conv=>whnf)
          refine loopWK hM (by kernel_rfl) (nn := 83) (S := ((List Nat) × Nat)) (σ := ((List Nat) × Nat) × Option Nat) (fun s => s.1) (fun ((v9, v10), a8) h => (a8 = none → v9 = []) ∧ Own vars h0 [(a8, .cells (flatC (v9.map i64)) false)] h ∧ True) (fun ((v9, v10), a8) => [(1, ((encL 1 n8) p1)), (7, (growV 1 a8 (v9.map i64))), (27, ((encL 4 encNode) p0.nodes)), (28, (i64 p0.nodes.length)), (29, (i64 v10))]) rfl ((([] : List Nat), 0), none) hm ⟨(fun _ => rfl), O, trivial⟩ ⟨VLe.refl _ _, VLe.refl _ _, VLe.refl _ _, VLe.refl _ _, VLe.refl _ _, trivial⟩ ?_
          clear hm; rintro ⟨⟨v9, v10⟩, a8⟩ nx12 base h hm ⟨ha11, O, _⟩
          (conv=>whnf)
          refine CodeS.step ?_;(conv=>whnf)
          refine CodeS.step ?_; ((conv=>whnf); repeat ((first|refine RegS.stepH ?_|refine RegXS.stepH ?_);(conv=>whnf)))
          refine CodeS.step ?_;(conv=>whnf)
          refine CodeS.step ?_;(conv=>whnf)
          refine ⟨_, rfl, fun hc => ?_, fun hc => ?_⟩
          · replace hm := hm.1 hc
            refine CodeS.step ?_;(conv=>whnf)
            refine CodeS.joinWS hm (nn := 83) (σ := (List Nat) × Option Nat) (fun s => s.1) (fun (v14, a13) h => (a13 = none → v14 = []) ∧ Own vars h0 [(a13, .cells (flatC (v14.map i64)) false)] h ∧ True) (fun (v14, a13) => [(1, ((encL 1 n8) p1)), (7, (growV 1 a13 (v14.map i64))), (27, ((encL 4 encNode) p0.nodes)), (28, (i64 p0.nodes.length)), (29, (i64 v10))]) rfl (fun hm' => ?_) ?_
            · replace hm := hm'
              refine CodeS.step ?_;(conv=>whnf)
              refine CodeS.step ?_;(conv=>whnf)
              refine CodeS.step ?_; ((conv=>whnf); repeat ((first|refine RegS.stepH ?_|refine RegXS.stepH ?_);(conv=>whnf)))
              obtain ⟨x17, hx17, hm⟩ := hm
              refine flAtM (s := 4) (enc := encNode) (j := v10) rfl rfl rfl rfl hx17 ?_; ((conv=>whnf); repeat ((first|refine RegS.stepH ?_|refine RegXS.stepH ?_);(conv=>whnf)))
              refine ⟨_, (rfl : aread _ _ _ _ = some _), ?_⟩; ((conv=>whnf); repeat ((first|refine RegS.stepH ?_|refine RegXS.stepH ?_);(conv=>whnf)))
              (first | refine O.new (anew_alloc (l := [(n8 0), (.slice none 0 0), (i64 0), (i64 0)]) rfl rfl rfl) fun g18 h O => ?_ | refine O.newX (anew_alloc (l := [(n8 0), (.slice none 0 0), (i64 0), (i64 0)]) rfl rfl rfl) fun g18 h O => ?_); ((conv=>whnf); repeat ((first|refine RegS.stepH ?_|refine RegXS.stepH ?_);(conv=>whnf)))
              refine O.store (n := 4) (cs' := [(n8 x17.kind), ((encL 1 i64) x17.ins), (i64 x17.mem), (i64 x17.bit)]) (.head _) rfl rfl rfl rfl (Nat.le_of_ble_eq_true rfl) rfl rfl fun h O => ?_; ((conv=>whnf); repeat ((first|refine RegS.stepH ?_|refine RegXS.stepH ?_);(conv=>whnf)))
              refine CodeS.step ?_;(conv=>whnf)
              refine CodeS.step ?_; ((conv=>whnf); repeat ((first|refine RegS.stepH ?_|refine RegXS.stepH ?_);(conv=>whnf)))
              refine ⟨_, loadK rfl (O.at (.head _)) rfl rfl, ?_⟩; ((conv=>whnf); repeat ((first|refine RegS.stepH ?_|refine RegXS.stepH ?_);(conv=>whnf)))
              refine lenM (s := 1) (enc := i64) (l := x17.ins) rfl rfl ?_; ((conv=>whnf); repeat ((first|refine RegS.stepH ?_|refine RegXS.stepH ?_);(conv=>whnf)))
              refine O.makeL (enc := n8) (z := 0) (b := 1) (s := 1) (n := x17.ins.length) rfl rfl rfl rfl rfl (by decide) (by kernel_rfl) rfl rfl hm.1 hm.2.1 fun g20 h O => ?_; ((conv=>whnf); repeat ((first|refine RegS.stepH ?_|refine RegXS.stepH ?_);(conv=>whnf)))
              replace hm := hm.2.2
              refine CodeS.joinWS hm (nn := 83) (σ := (List Nat) × Unit) (fun s => s.1) (fun (v22, _) h => (a8 = none → v9 = []) ∧ Own vars h0 [(a8, .cells (flatC (v9.map i64)) false), ((some g18), .cells [(n8 x17.kind), ((encL 1 i64) x17.ins), (i64 x17.mem), (i64 x17.bit)] false), ((some g20), .cells (flatC (v22.map n8)) false)] h ∧ True) (fun (v22, _) => [(1, ((encL 1 n8) p1)), (7, (growV 1 a8 (v9.map i64))), (8, (i64 v10)), (9, (.pointer (some ⟨g18, 0, none⟩))), (10, (.slice (some ⟨g20, 0, none⟩) x17.ins.length x17.ins.length)), (27, ((encL 4 encNode) p0.nodes)), (28, (i64 p0.nodes.length)), (29, (i64 v10))]) rfl (fun hm' => ?_) ?_
              · replace hm := hm'
                refine CodeS.step ?_;(conv=>whnf)
                refine CodeS.step ?_; ((conv=>whnf); repeat ((first|refine RegS.stepH ?_|refine RegXS.stepH ?_);(conv=>whnf)))
                refine ⟨_, loadK rfl (O.at (.tail _ (.head _))) rfl rfl, ?_⟩; ((conv=>whnf); repeat ((first|refine RegS.stepH ?_|refine RegXS.stepH ?_);(conv=>whnf)))
                refine lenM (s := 1) (enc := i64) (l := x17.ins) rfl rfl ?_; ((conv=>whnf); repeat ((first|refine RegS.stepH ?_|refine RegXS.stepH ?_);(conv=>whnf)))
                refine CodeS.step ?_;(conv=>whnf)
                refine CodeS.step ?_;(conv=>whnf)
                refine loopWK hM (by kernel_rfl) (nn := 83) (S := ((List Nat) × Nat)) (σ := ((List Nat) × Nat) × Unit) (fun s => s.1) (fun ((v25, v26), _) h => (a8 = none → v9 = []) ∧ Own vars h0 [(a8, .cells (flatC (v9.map i64)) false), ((some g18), .cells [(n8 x17.kind), ((encL 1 i64) x17.ins), (i64 x17.mem), (i64 x17.bit)] false), ((some g20), .cells (flatC (v25.map n8)) false)] h ∧ True) (fun ((v25, v26), _) => [(1, ((encL 1 n8) p1)), (7, (growV 1 a8 (v9.map i64))), (8, (i64 v10)), (9, (.pointer (some ⟨g18, 0, none⟩))), (10, (.slice (some ⟨g20, 0, none⟩) x17.ins.length x17.ins.length)), (27, ((encL 4 encNode) p0.nodes)), (28, (i64 p0.nodes.length)), (29, (i64 v10)), (39, ((encL 1 i64) x17.ins)), (40, (i64 x17.ins.length)), (41, (i64 v26))]) rfl (((List.replicate x17.ins.length (0 : Nat)), 0), ()) hm ⟨ha11, (O.sel [2, 1, 0] (by decide)), trivial⟩ ⟨VLe.refl _ _, VLe.refl _ _, VLe.refl _ _, VLe.refl _ _, VLe.refl _ _, VLe.refl _ _, VLe.refl _ _, VLe.refl _ _, VLe.refl _ _, VLe.refl _ _, VLe.refl _ _, trivial⟩ ?_
                clear hm; rintro ⟨⟨v25, v26⟩, _⟩ nx28 base h hm ⟨ha27, O, _⟩
                (conv=>whnf)
                refine CodeS.step ?_;(conv=>whnf)
                refine CodeS.step ?_; ((conv=>whnf); repeat ((first|refine RegS.stepH ?_|refine RegXS.stepH ?_);(conv=>whnf)))
                refine CodeS.step ?_;(conv=>whnf)
                refine CodeS.step ?_;(conv=>whnf)
                refine ⟨_, rfl, fun hc => ?_, fun hc => ?_⟩
                · replace hm := hm.1 hc
                  refine CodeS.step ?_;(conv=>whnf)
                  refine CodeS.step ?_;(conv=>whnf)
                  refine CodeS.step ?_;(conv=>whnf)
                  refine CodeS.step ?_;(conv=>whnf)
                  refine CodeS.step ?_; ((conv=>whnf); repeat ((first|refine RegS.stepH ?_|refine RegXS.stepH ?_);(conv=>whnf)))
                  obtain ⟨x29, hx29, hm⟩ := hm
                  refine flAtM (s := 1) (enc := i64) (j := v26) rfl rfl rfl rfl hx29 ?_; ((conv=>whnf); repeat ((first|refine RegS.stepH ?_|refine RegXS.stepH ?_);(conv=>whnf)))
                  refine ⟨_, (rfl : aread _ _ _ _ = some _), ?_⟩; ((conv=>whnf); repeat ((first|refine RegS.stepH ?_|refine RegXS.stepH ?_);(conv=>whnf)))
                  refine CodeS.step ?_; ((conv=>whnf); repeat ((first|refine RegS.stepH ?_|refine RegXS.stepH ?_);(conv=>whnf)))
                  obtain ⟨x30, hx30, hm⟩ := hm
                  refine flAtM (s := 1) (enc := n8) (j := x29) rfl rfl rfl rfl hx30 ?_; ((conv=>whnf); repeat ((first|refine RegS.stepH ?_|refine RegXS.stepH ?_);(conv=>whnf)))
                  refine ⟨_, (rfl : aread _ _ _ _ = some _), ?_⟩; ((conv=>whnf); repeat ((first|refine RegS.stepH ?_|refine RegXS.stepH ?_);(conv=>whnf)))
                  obtain ⟨hj, x31, hx31, hm⟩ := hm
                  refine indexK (s := 1) (j := v26) rfl rfl rfl rfl hj ?_; ((conv=>whnf); repeat ((first|refine RegS.stepH ?_|refine RegXS.stepH ?_);(conv=>whnf)))
                  refine O.store (n := 1) (.tail _ (.tail _ (.head _))) rfl rfl rfl rfl (el_le (enc := n8) (s := 1) (k := 0) (n := 1) (fun _ => rfl) (lt_of_get hx31) (Nat.le_of_ble_eq_true rfl)) rfl (splice_all (enc := n8) (s := 1) (fun _ => rfl) (lt_of_get hx31) (x := x30) rfl) fun h O => ?_; ((conv=>whnf); repeat ((first|refine RegS.stepH ?_|refine RegXS.stepH ?_);(conv=>whnf)))
                  refine CodeS.step ?_; ((conv=>whnf); repeat ((first|refine RegS.stepH ?_|refine RegXS.stepH ?_);(conv=>whnf)))
                  refine ⟨_, addK (a := v26) (b := 1) rfl rfl hm.1, ?_⟩; ((conv=>whnf); repeat ((first|refine RegS.stepH ?_|refine RegXS.stepH ?_);(conv=>whnf)))
                  replace hm := hm.2
                  exact ⟨(((v25.set v26 x30), (v26 + 1)), ()), hm, ⟨ha27, O, trivial⟩, VLe.refl _ _, VLe.refl _ _, VLe.refl _ _, VLe.refl _ _, VLe.refl _ _, VLe.refl _ _, VLe.refl _ _, VLe.refl _ _, VLe.refl _ _, VLe.refl _ _, VLe.refl _ _, trivial⟩
                · replace hm := hm.2 hc
                  refine CodeS.step ?_;(conv=>whnf)
                  exact ⟨(v25, ()), hm, ⟨ha27, O, trivial⟩, VLe.refl _ _, VLe.refl _ _, VLe.refl _ _, VLe.refl _ _, VLe.refl _ _, VLe.refl _ _, VLe.refl _ _, VLe.refl _ _, trivial⟩
              · clear hm; rintro ⟨v22, _⟩ base h hm ⟨ha23, O, _⟩
                (conv=>whnf)
                refine CodeS.joinWS hm (nn := 83) (σ := Bool × Unit) (fun s => s.1) (fun (v32, _) h => (a8 = none → v9 = []) ∧ Own vars h0 [(a8, .cells (flatC (v9.map i64)) false)] h ∧ True) (fun (v32, _) => [(1, ((encL 1 n8) p1)), (7, (growV 1 a8 (v9.map i64))), (8, (i64 v10)), (27, ((encL 4 encNode) p0.nodes)), (28, (i64 p0.nodes.length)), (29, (i64 v10)), (75, (.bool v32))]) rfl (fun hm' => ?_) ?_
                · replace hm := hm'
                  refine CodeS.step ?_; ((conv=>whnf); repeat ((first|refine RegS.stepH ?_|refine RegXS.stepH ?_);(conv=>whnf)))
                  refine ⟨_, loadK rfl (O.at (.tail _ (.head _))) rfl rfl, ?_⟩; ((conv=>whnf); repeat ((first|refine RegS.stepH ?_|refine RegXS.stepH ?_);(conv=>whnf)))
                  refine ⟨.inl rfl, ?_⟩; ((conv=>whnf); repeat ((first|refine RegS.stepH ?_|refine RegXS.stepH ?_);(conv=>whnf)))
                  obtain ⟨r35, hm, hcall⟩ := implies_free_walk hm O.has
                  refine ⟨_, _, hcall, ?_⟩; ((conv=>whnf); repeat ((first|refine RegS.stepH ?_|refine RegXS.stepH ?_);(conv=>whnf)))
                  (first | refine ⟨.inl rfl, ?_⟩ | refine ⟨.inr (.inr rfl), ?_⟩ | refine ⟨.inr (.inr (loadK rfl (O.at (.head _)) rfl rfl)), ?_⟩ | refine ⟨.inr (.inr (loadK rfl (O.at (.tail _ (.head _))) rfl rfl)), ?_⟩ | refine ⟨.inr (.inr (loadK rfl (O.at (.tail _ (.tail _ (.head _)))) rfl rfl)), ?_⟩ | refine ⟨.inr (.inr (loadK rfl (O.at (.tail _ (.tail _ (.tail _ (.head _))))) rfl rfl)), ?_⟩ | refine ⟨.inl (Ext.refl _), ?_⟩ | refine ⟨.inr (by kernel_rfl), ?_⟩ | refine ⟨.inl (by kernel_rfl), ?_⟩); ((conv=>whnf); repeat ((first|refine RegS.stepH ?_|refine RegXS.stepH ?_);(conv=>whnf)))
                  refine ⟨_, rfl, fun hc => ?_, fun hc => ?_⟩
                  · replace hm := hm.1 hc; ((conv=>whnf); repeat ((first|refine RegS.stepH ?_|refine RegXS.stepH ?_);(conv=>whnf)))
                    obtain ⟨x36, hx36, hm⟩ := hm
                    refine flAtM (s := 1) (enc := n8) (j := v10) rfl rfl rfl rfl hx36 ?_; ((conv=>whnf); repeat ((first|refine RegS.stepH ?_|refine RegXS.stepH ?_);(conv=>whnf)))
                    refine ⟨_, (rfl : aread _ _ _ _ = some _), ?_⟩; ((conv=>whnf); repeat ((first|refine RegS.stepH ?_|refine RegXS.stepH ?_);(conv=>whnf)))
                    refine ⟨.inl rfl, ?_⟩; ((conv=>whnf); repeat ((first|refine RegS.stepH ?_|refine RegXS.stepH ?_);(conv=>whnf)))
                    refine ⟨_, rfl, fun hc => ?_, fun hc => ?_⟩
                    · replace hm := hm.1 hc; ((conv=>whnf); repeat ((first|refine RegS.stepH ?_|refine RegXS.stepH ?_);(conv=>whnf)))
                      refine ⟨_, loadK rfl (O.at (.tail _ (.head _))) rfl rfl, ?_⟩; ((conv=>whnf); repeat ((first|refine RegS.stepH ?_|refine RegXS.stepH ?_);(conv=>whnf)))
                      refine ⟨.inl rfl, ?_⟩; ((conv=>whnf); repeat ((first|refine RegS.stepH ?_|refine RegXS.stepH ?_);(conv=>whnf)))
                      obtain ⟨hn38, hm⟩ := hm
                      refine CallD.useB (fun _ hb => logic_Eval_walk hm hb) (fun _ => flatB_ok rfl) fzVars O.has (fun h2 F => (LLe.cons (VLe.refl _ _) (LLe.cons (O.flatL F (Nat.zero_le _) (.tail _ (.tail _ (.head _))) (fun _ => rfl) hn38) (LLe.nil _)))) (by kernel_rfl) (fun r37 hm' => ?_); replace hm := hm'; ((conv=>whnf); repeat ((first|refine RegS.stepH ?_|refine RegXS.stepH ?_);(conv=>whnf)))
                      (first | refine ⟨.inl rfl, ?_⟩ | refine ⟨.inr (.inr rfl), ?_⟩ | refine ⟨.inr (.inr (loadK rfl (O.at (.head _)) rfl rfl)), ?_⟩ | refine ⟨.inr (.inr (loadK rfl (O.at (.tail _ (.head _))) rfl rfl)), ?_⟩ | refine ⟨.inr (.inr (loadK rfl (O.at (.tail _ (.tail _ (.head _)))) rfl rfl)), ?_⟩ | refine ⟨.inr (.inr (loadK rfl (O.at (.tail _ (.tail _ (.tail _ (.head _))))) rfl rfl)), ?_⟩ | refine ⟨.inl (Ext.refl _), ?_⟩ | refine ⟨.inr (by kernel_rfl), ?_⟩ | refine ⟨.inl (by kernel_rfl), ?_⟩); ((conv=>whnf); repeat ((first|refine RegS.stepH ?_|refine RegXS.stepH ?_);(conv=>whnf)))
                      obtain ⟨x39, hx39, hm⟩ := hm
                      refine flAtM (s := 1) (enc := n8) (j := v10) rfl rfl rfl rfl hx39 ?_; ((conv=>whnf); repeat ((first|refine RegS.stepH ?_|refine RegXS.stepH ?_);(conv=>whnf)))
                      refine ⟨_, (rfl : aread _ _ _ _ = some _), ?_⟩; ((conv=>whnf); repeat ((first|refine RegS.stepH ?_|refine RegXS.stepH ?_);(conv=>whnf)))
                      refine ⟨.inl rfl, ?_⟩; ((conv=>whnf); repeat ((first|refine RegS.stepH ?_|refine RegXS.stepH ?_);(conv=>whnf)))
                      exact ⟨((neN r37 x39), ()), hm, ⟨ha23, (O.sel [0] (by decide)), trivial⟩, VLe.refl _ _, VLe.refl _ _, VLe.refl _ _, VLe.refl _ _, VLe.refl _ _, VLe.refl _ _, VLe.refl _ _, trivial⟩
                    · replace hm := hm.2 hc; ((conv=>whnf); repeat ((first|refine RegS.stepH ?_|refine RegXS.stepH ?_);(conv=>whnf)))
                      exact ⟨(false, ()), hm, ⟨ha23, (O.sel [0] (by decide)), trivial⟩, VLe.refl _ _, VLe.refl _ _, VLe.refl _ _, VLe.refl _ _, VLe.refl _ _, VLe.refl _ _, VLe.refl _ _, trivial⟩
                  · replace hm := hm.2 hc; ((conv=>whnf); repeat ((first|refine RegS.stepH ?_|refine RegXS.stepH ?_);(conv=>whnf)))
                    refine ⟨false, rfl, (fun hc => nomatch hc), fun _ => ?_⟩; ((conv=>whnf); repeat ((first|refine RegS.stepH ?_|refine RegXS.stepH ?_);(conv=>whnf)))
                    exact ⟨(false, ()), hm, ⟨ha23, (O.sel [0] (by decide)), trivial⟩, VLe.refl _ _, VLe.refl _ _, VLe.refl _ _, VLe.refl _ _, VLe.refl _ _, VLe.refl _ _, VLe.refl _ _, trivial⟩
                · clear hm; rintro ⟨v32, _⟩ base h hm ⟨ha33, O, _⟩
                  (conv=>whnf)
                  refine CodeS.step ?_;(conv=>whnf)
                  refine ⟨_, rfl, fun hc => ?_, fun hc => ?_⟩
                  · replace hm := hm.1 hc
                    refine CodeS.step ?_; ((conv=>whnf); repeat ((first|refine RegS.stepH ?_|refine RegXS.stepH ?_);(conv=>whnf)))
                    refine NewG.frz rfl ?_; ((conv=>whnf); repeat ((first|refine RegS.stepH ?_|refine RegXS.stepH ?_);(conv=>whnf)))
                    refine O.appendL (enc := i64) (l := v9) (new := ([v10] : (List Nat))) (s := 1) (b := 8) (.head _) ha33 rfl rfl rfl rfl rfl rfl rfl rfl (YOk.fl rfl) (fun _ => rfl) (fun _ => rfl) (by decide) hm.1 fun a40 h ha41 O => ?_; ((conv=>whnf); repeat ((first|refine RegS.stepH ?_|refine RegXS.stepH ?_);(conv=>whnf)))
                    replace hm := hm.2
                    exact ⟨((v9 ++ ([v10] : (List Nat))), a40), hm, ⟨ha41, O, trivial⟩, VLe.refl _ _, VLe.refl _ _, VLe.refl _ _, VLe.refl _ _, VLe.refl _ _, trivial⟩
                  · replace hm := hm.2 hc
                    refine CodeS.step ?_;(conv=>whnf)
                    exact ⟨(v9, a8), hm, ⟨ha33, O, trivial⟩, VLe.refl _ _, VLe.refl _ _, VLe.refl _ _, VLe.refl _ _, VLe.refl _ _, trivial⟩
            · clear hm; rintro ⟨v14, a13⟩ base h hm ⟨ha15, O, _⟩
              (conv=>whnf)
              refine CodeS.step ?_; ((conv=>whnf); repeat ((first|refine RegS.stepH ?_|refine RegXS.stepH ?_);(conv=>whnf)))
              refine ⟨_, addK (a := v10) (b := 1) rfl rfl hm.1, ?_⟩; ((conv=>whnf); repeat ((first|refine RegS.stepH ?_|refine RegXS.stepH ?_);(conv=>whnf)))
              replace hm := hm.2
              exact ⟨((v14, (v10 + 1)), a13), hm, ⟨ha15, O, trivial⟩, VLe.refl _ _, VLe.refl _ _, VLe.refl _ _, VLe.refl _ _, VLe.refl _ _, trivial⟩
          · replace hm := hm.2 hc
            refine CodeS.step ?_;(conv=>whnf)
            exact ⟨(v9, a8), hm, ⟨ha11, O, trivial⟩, VLe.refl _ _, trivial⟩
        · clear hm; rintro ⟨v5, a4⟩ base h hm ⟨ha6, O, _⟩
          (conv=>whnf)
          refine CodeS.step ?_;(conv=>whnf)
          refine CodeS.step ?_; ((conv=>whnf); repeat ((first|refine RegS.stepH ?_|refine RegXS.stepH ?_);(conv=>whnf)))
          refine fnG hM Tryd.func39 rfl (hP _ _ rfl Tryd.func39) (Nat.le_of_ble_eq_true rfl) ?_;(conv=>whnf)
          refine CodeS.step ?_;(conv=>whnf)
          refine CodeS.step ?_; ((conv=>whnf); repeat ((first|refine RegS.stepH ?_|refine RegXS.stepH ?_);(conv=>whnf)))
          refine CodeS.step ?_;(conv=>whnf)
          refine CodeS.step ?_; ((conv=>whnf); repeat ((first|refine RegS.stepH ?_|refine RegXS.stepH ?_);(conv=>whnf)))
          refine lenG (enc := i64) (l := v5) rfl rfl ?_; ((conv=>whnf); repeat ((first|refine RegS.stepH ?_|refine RegXS.stepH ?_);(conv=>whnf)))
          refine lenG (enc := i64) (l := v5) rfl rfl ?_; ((conv=>whnf); repeat ((first|refine RegS.stepH ?_|refine RegXS.stepH ?_);(conv=>whnf)))
          refine clipK (s := 1) (enc := i64) (l := v5) (n := v5.length) (m := v5.length) rfl rfl rfl rfl rfl rfl rfl ?_; ((conv=>whnf); repeat ((first|refine RegS.stepH ?_|refine RegXS.stepH ?_);(conv=>whnf)))
          refine CodeS.step ?_;(conv=>whnf)
          ((conv=>whnf); repeat ((first|refine RegS.stepH ?_|refine RegXS.stepH ?_);(conv=>whnf)))
          refine CodeS.step ?_;(conv=>whnf)
          exact ⟨(v5, 0), hm, O.ext, fun h2 F => VLe.tup (LLe.cons (O.clipL F (Nat.le_refl _) (.head _) ha6 (fun _ => rfl)) (LLe.cons (VLe.refl _ _) (LLe.nil _)))⟩
def probecardlaw24_Free_wp (p0 : Circ) (K : (List Nat) → Prop) : Prop :=
  joinW (α := (List Nat)) (fun k6 => loopW (S := ((List Nat) × Nat)) (fun (v8, v9) nx11 => ((ltN v9 p0.nodes.length) = true → joinW (α := (List Nat)) (fun k15 => joinW (α := Bool) (fun k18 => ∃ x19, p0.nodes[v9]? = some x19 ∧ ((eqN x19.kind 0) = true → k18 true) ∧ ((eqN x19.kind 0) = false → ∃ x20, p0.nodes[v9]? = some x20 ∧ k18 (eqN x20.kind 14))) (fun v16 => (v16 = true → (v8.length + ([v9] : (List Nat)).length) * 8 ≤ 2 ^ 47 ∧ k15 (v8 ++ ([v9] : (List Nat)))) ∧ (v16 = false → k15 v8))) (fun v13 => v9 + 1 < 2 ^ 63 ∧ nx11 (v13, (v9 + 1)))) ∧ ((ltN v9 p0.nodes.length) = false → k6 v8)) (([] : List Nat), 0)) (fun v4 => K v4)
set_option maxHeartbeats 8000000 in
theorem probecardlaw24_Free_walk {p0 : Circ} {K : (List Nat) → Prop} (hm : probecardlaw24_Free_wp p0 K) {h0 : Heap} (hB : HasB vars h0) : ∃ r, K r ∧ CallD Tryd.prog NG 48 ⟨[encCirc p0]⟩ h0 ((encL 1 i64) r) h0 := by
  unfold probecardlaw24_Free_wp at hm
  refine fnW hM Tryd.func48 rfl (hP _ _ rfl Tryd.func48) (Nat.le_of_ble_eq_true rfl) hB (enc := (encL 1 i64)) (fun r => pureL (fun _ => AllPure.cons (PureV.flat rfl) AllPure.nil)) fun O => ?_;(conv=>whnf)
  refine CodeS.step ?_;(conv=>whnf)
  refine CodeS.step ?_; ((conv=>whnf); repeat ((first|refine RegS.stepH ?_|refine RegXS.stepH ?_);(conv=>whnf)))
  refine NewG.frz rfl ?_; ((conv=>whnf); repeat ((first|refine RegS.stepH ?_|refine RegXS.stepH ?_);(conv=>whnf)))
  have O := O.addNil (.cells (flatC ((([] : List Nat)).map i64)) false)
  refine CodeS.step ?_;(conv=>whnf)
  refine CodeS.step ?_; ((conv=>whnf); repeat ((first|refine RegS.stepH ?_|refine RegXS.stepH ?_);(conv=>whnf)))
  have O := O.addNil (.cells (flatC ((([] : List Nat)).map i64)) false)
  refine CodeS.joinWS hm (nn := 33) (σ := (List Nat) × Option Nat) (fun s => s.1) (fun (v4, a3) h => (a3 = none → v4 = []) ∧ Own vars h0 [(a3, .cells (flatC (v4.map i64)) false)] h ∧ True) (fun (v4, a3) => [(3, (growV 1 a3 (v4.map i64)))]) rfl (fun hm' => ?_) ?_
  · replace hm := hm'
    refine CodeS.step ?_;(conv=>whnf)
    refine CodeS.step ?_; ((conv=>whnf); repeat ((first|refine RegS.stepH ?_|refine RegXS.stepH ?_);(conv=>whnf)))
    refine CodeS.step ?_;(conv=>whnf)
    refine CodeS.step ?_;(conv=>whnf)
    refine loopWK hM (by kernel_rfl) (nn := 33) (S := ((List Nat) × Nat)) (σ := ((List Nat) × Nat) × Option Nat) (fun s => s.1) (fun ((v8, v9), a7) h => (a7 = none → v8 = []) ∧ Own vars h0 [(a7, .cells (flatC (v8.map i64)) false)] h ∧ True) (fun ((v8, v9), a7) => [(1, (FP (encCirc p0))), (3, (growV 1 a7 (v8.map i64))), (4, (i64 v9))]) rfl ((([] : List Nat), 0), none) hm ⟨(fun _ => rfl), (O.sel [0] (by decide)), trivial⟩ ⟨VLe.refl _ _, VLe.refl _ _, VLe.refl _ _, trivial⟩ ?_
    clear hm; rintro ⟨⟨v8, v9⟩, a7⟩ nx11 base h hm ⟨ha10, O, _⟩
    (conv=>whnf)
    refine CodeS.step ?_;(conv=>whnf)
    refine CodeS.step ?_;(conv=>whnf)
    refine CodeS.step ?_; ((conv=>whnf); repeat ((first|refine RegS.stepH ?_|refine RegXS.stepH ?_);(conv=>whnf)))
    refine ⟨_, (rfl : aread _ _ _ _ = some _), ?_⟩; ((conv=>whnf); repeat ((first|refine RegS.stepH ?_|refine RegXS.stepH ?_);(conv=>whnf)))
    refine lenM (s := 4) (enc := encNode) (l := p0.nodes) rfl rfl ?_; ((conv=>whnf); repeat ((first|refine RegS.stepH ?_|refine RegXS.stepH ?_);(conv=>whnf)))
    refine CodeS.step ?_;(conv=>whnf)
    refine ⟨_, rfl, fun hc => ?_, fun hc => ?_⟩
    · replace hm := hm.1 hc
      refine CodeS.step ?_;(conv=>whnf)
      refine CodeS.joinWS hm (nn := 33) (σ := (List Nat) × Option Nat) (fun s => s.1) (fun (v13, a12) h => (a12 = none → v13 = []) ∧ Own vars h0 [(a12, .cells (flatC (v13.map i64)) false)] h ∧ True) (fun (v13, a12) => [(1, (FP (encCirc p0))), (3, (growV 1 a12 (v13.map i64))), (4, (i64 v9))]) rfl (fun hm' => ?_) ?_
      · replace hm := hm'
        refine CodeS.step ?_;(conv=>whnf)
        refine CodeS.joinWS hm (nn := 33) (σ := Bool × Unit) (fun s => s.1) (fun (v16, _) h => (a7 = none → v8 = []) ∧ Own vars h0 [(a7, .cells (flatC (v8.map i64)) false)] h ∧ True) (fun (v16, _) => [(1, (FP (encCirc p0))), (3, (growV 1 a7 (v8.map i64))), (4, (i64 v9)), (27, (.bool v16))]) rfl (fun hm' => ?_) ?_
        · replace hm := hm'
          refine CodeS.step ?_; ((conv=>whnf); repeat ((first|refine RegS.stepH ?_|refine RegXS.stepH ?_);(conv=>whnf)))
          refine ⟨_, (rfl : aread _ _ _ _ = some _), ?_⟩; ((conv=>whnf); repeat ((first|refine RegS.stepH ?_|refine RegXS.stepH ?_);(conv=>whnf)))
          obtain ⟨x19, hx19, hm⟩ := hm
          refine flAtM (s := 4) (enc := encNode) (j := v9) rfl rfl rfl rfl hx19 ?_; ((conv=>whnf); repeat ((first|refine RegS.stepH ?_|refine RegXS.stepH ?_);(conv=>whnf)))
          refine ⟨_, (rfl : aread _ _ _ _ = some _), ?_⟩; ((conv=>whnf); repeat ((first|refine RegS.stepH ?_|refine RegXS.stepH ?_);(conv=>whnf)))
          refine ⟨_, rfl, fun hc => ?_, fun hc => ?_⟩
          · replace hm := hm.1 hc; ((conv=>whnf); repeat ((first|refine RegS.stepH ?_|refine RegXS.stepH ?_);(conv=>whnf)))
            exact ⟨(true, ()), hm, ⟨ha10, O, trivial⟩, VLe.refl _ _, VLe.refl _ _, VLe.refl _ _, VLe.refl _ _, trivial⟩
          · replace hm := hm.2 hc; ((conv=>whnf); repeat ((first|refine RegS.stepH ?_|refine RegXS.stepH ?_);(conv=>whnf)))
            refine ⟨_, (rfl : aread _ _ _ _ = some _), ?_⟩; ((conv=>whnf); repeat ((first|refine RegS.stepH ?_|refine RegXS.stepH ?_);(conv=>whnf)))
            obtain ⟨x20, hx20, hm⟩ := hm
            refine flAtM (s := 4) (enc := encNode) (j := v9) rfl rfl rfl rfl hx20 ?_; ((conv=>whnf); repeat ((first|refine RegS.stepH ?_|refine RegXS.stepH ?_);(conv=>whnf)))
            refine ⟨_, (rfl : aread _ _ _ _ = some _), ?_⟩; ((conv=>whnf); repeat ((first|refine RegS.stepH ?_|refine RegXS.stepH ?_);(conv=>whnf)))
            exact ⟨((eqN x20.kind 14), ()), hm, ⟨ha10, O, trivial⟩, VLe.refl _ _, VLe.refl _ _, VLe.refl _ _, VLe.refl _ _, trivial⟩
        · clear hm; rintro ⟨v16, _⟩ base h hm ⟨ha17, O, _⟩
          (conv=>whnf)
          refine CodeS.step ?_;(conv=>whnf)
          refine ⟨_, rfl, fun hc => ?_, fun hc => ?_⟩
          · replace hm := hm.1 hc
            refine CodeS.step ?_; ((conv=>whnf); repeat ((first|refine RegS.stepH ?_|refine RegXS.stepH ?_);(conv=>whnf)))
            refine NewG.frz rfl ?_; ((conv=>whnf); repeat ((first|refine RegS.stepH ?_|refine RegXS.stepH ?_);(conv=>whnf)))
            refine O.appendL (enc := i64) (l := v8) (new := ([v9] : (List Nat))) (s := 1) (b := 8) (.head _) ha17 rfl rfl rfl rfl rfl rfl rfl rfl (YOk.fl rfl) (fun _ => rfl) (fun _ => rfl) (by decide) hm.1 fun a21 h ha22 O => ?_; ((conv=>whnf); repeat ((first|refine RegS.stepH ?_|refine RegXS.stepH ?_);(conv=>whnf)))
            replace hm := hm.2
            exact ⟨((v8 ++ ([v9] : (List Nat))), a21), hm, ⟨ha22, O, trivial⟩, VLe.refl _ _, VLe.refl _ _, VLe.refl _ _, trivial⟩
          · replace hm := hm.2 hc
            refine CodeS.step ?_;(conv=>whnf)
            exact ⟨(v8, a7), hm, ⟨ha17, O, trivial⟩, VLe.refl _ _, VLe.refl _ _, VLe.refl _ _, trivial⟩
      · clear hm; rintro ⟨v13, a12⟩ base h hm ⟨ha14, O, _⟩
        (conv=>whnf)
        refine CodeS.step ?_; ((conv=>whnf); repeat ((first|refine RegS.stepH ?_|refine RegXS.stepH ?_);(conv=>whnf)))
        refine ⟨_, addK (a := v9) (b := 1) rfl rfl hm.1, ?_⟩; ((conv=>whnf); repeat ((first|refine RegS.stepH ?_|refine RegXS.stepH ?_);(conv=>whnf)))
        replace hm := hm.2
        exact ⟨((v13, (v9 + 1)), a12), hm, ⟨ha14, O, trivial⟩, VLe.refl _ _, VLe.refl _ _, VLe.refl _ _, trivial⟩
    · replace hm := hm.2 hc
      refine CodeS.step ?_;(conv=>whnf)
      exact ⟨(v8, a7), hm, ⟨ha10, O, trivial⟩, VLe.refl _ _, trivial⟩
  · clear hm; rintro ⟨v4, a3⟩ base h hm ⟨ha5, O, _⟩
    (conv=>whnf)
    refine CodeS.step ?_;(conv=>whnf)
    refine CodeS.step ?_; ((conv=>whnf); repeat ((first|refine RegS.stepH ?_|refine RegXS.stepH ?_);(conv=>whnf)))
    refine CodeS.step ?_;(conv=>whnf)
    exact ⟨v4, hm, O.ext, fun h2 F => O.grownL F (Nat.le_refl _) (.head _) ha5 (fun _ => rfl)⟩
def probecardlaw24_Total_wp (p0 : Circ) (p1 : Nat) (K : (List Nat) → Prop) : Prop :=
  1 * p0.nodes.length ≤ 2 ^ 48 ∧ p0.nodes.length < 2 ^ 63 ∧ probecardlaw24_Free_wp p0 (fun r3 => joinW (α := (List Nat)) (fun k5 => loopW (S := ((List Nat) × Nat)) (fun (v6, v7) nx8 => ((ltN v7 r3.length) = true → ∃ x9, r3[v7]? = some x9 ∧ v7 ≤ 63 ∧ 0 < 2 ∧ x9 < p0.nodes.length ∧ ∃ x10, v6[x9]? = some x10 ∧ v7 + 1 < 2 ^ 63 ∧ nx8 ((v6.set x9 (((p1 / 2 ^ v7) % 2) % 256)), (v7 + 1))) ∧ ((ltN v7 r3.length) = false → k5 v6)) ((List.replicate p0.nodes.length (0 : Nat)), 0)) (fun v4 => netlists_Order_wp p0 (fun r11 => joinW (α := (List Nat)) (fun k13 => loopW (S := ((List Nat) × Nat)) (fun (v14, v15) nx16 => ((ltN v15 r11.1.length) = true → joinW (α := (List Nat)) (fun k18 => ∃ x19, r11.1[v15]? = some x19 ∧ joinW (α := Bool) (fun k21 => ∃ x22, p0.nodes[x19]? = some x22 ∧ ((eqN x22.kind 0) = true → k21 true) ∧ ((eqN x22.kind 0) = false → ∃ x23, p0.nodes[x19]? = some x23 ∧ k21 (eqN x23.kind 14))) (fun v20 => (v20 = true → k18 v14) ∧ (v20 = false → joinW (α := (List Nat)) (fun k28 => loopW (S := ((List Nat) × Nat)) (fun (v30, v31) nx33 => ∃ x34, p0.nodes[x19]? = some x34 ∧ ((ltN v31 x34.ins.length) = true → ∃ x35, p0.nodes[x19]? = some x35 ∧ ∃ x36, x35.ins[v31]? = some x36 ∧ x36 < p0.nodes.length ∧ ∃ x37, v14[x36]? = some x37 ∧ (v30.length + ([x37] : (List Nat)).length) * 1 ≤ 2 ^ 47 ∧ v31 + 1 < 2 ^ 63 ∧ nx33 ((v30 ++ ([x37] : (List Nat))), (v31 + 1))) ∧ ((ltN v31 x34.ins.length) = false → k28 v30)) (([] : List Nat), 0)) (fun v26 => ∃ x40, p0.nodes[x19]? = some x40 ∧ logic_Eval_wp x40.kind v26 (fun r41 => x19 < p0.nodes.length ∧ ∃ x42, v14[x19]? = some x42 ∧ k18 (v14.set x19 r41)))))) (fun v17 => v15 + 1 < 2 ^ 63 ∧ nx16 (v17, (v15 + 1)))) ∧ ((ltN v15 r11.1.length) = false → k13 v14)) (v4, 0)) (fun v12 => p0.nodes.length = v12.length ∧ K v12))))
set_option maxHeartbeats 8000000 in
theorem probecardlaw24_Total_walk {p0 : Circ} {p1 : Nat} {K : (List Nat) → Prop} (hm : probecardlaw24_Total_wp p0 p1 K) {h0 : Heap} (hB : HasB vars h0) : ∃ r, K r ∧ CallD Tryd.prog NG 22 ⟨[encCirc p0, i64 p1]⟩ h0 ((encL 1 n8) r) h0 := by
  unfold probecardlaw24_Total_wp at hm
  refine fnW hM Tryd.func22 rfl (hP _ _ rfl Tryd.func22) (Nat.le_of_ble_eq_true rfl) hB (enc := (encL 1 n8)) (fun r => pureL (fun _ => AllPure.cons (PureV.flat rfl) AllPure.nil)) fun O => ?_;(conv=>whnf)
  refine CodeS.step ?_;(conv=>whnf)
  refine CodeS.step ?_; ((conv=>whnf); repeat ((first|refine RegS.stepH ?_|refine RegXS.stepH ?_);(conv=>whnf)))
  refine NewG.frz rfl ?_; ((conv=>whnf); repeat ((first|refine RegS.stepH ?_|refine RegXS.stepH ?_);(conv=>whnf)))
  refine CodeS.step ?_;(conv=>whnf)
  refine CodeS.step ?_; ((conv=>whnf); repeat ((first|refine RegS.stepH ?_|refine RegXS.stepH ?_);(conv=>whnf)))
  refine ⟨_, (rfl : aread _ _ _ _ = some _), ?_⟩; ((conv=>whnf); repeat ((first|refine RegS.stepH ?_|refine RegXS.stepH ?_);(conv=>whnf)))
  refine lenM (s := 4) (enc := encNode) (l := p0.nodes) rfl rfl ?_; ((conv=>whnf); repeat ((first|refine RegS.stepH ?_|refine RegXS.stepH ?_);(conv=>whnf)))
  refine O.makeL (enc := n8) (z := 0) (b := 1) (s := 1) (n := p0.nodes.length) rfl rfl rfl rfl rfl (by decide) (by kernel_rfl) rfl rfl hm.1 hm.2.1 fun g1 h O => ?_; ((conv=>whnf); repeat ((first|refine RegS.stepH ?_|refine RegXS.stepH ?_);(conv=>whnf)))
  replace hm := hm.2.2
  refine CodeS.step ?_;(conv=>whnf)
  refine CodeS.step ?_; ((conv=>whnf); repeat ((first|refine RegS.stepH ?_|refine RegXS.stepH ?_);(conv=>whnf)))
  refine ⟨_, (rfl : aread _ _ _ _ = some _), ?_⟩; ((conv=>whnf); repeat ((first|refine RegS.stepH ?_|refine RegXS.stepH ?_);(conv=>whnf)))
  obtain ⟨r3, hm, hcall⟩ := probecardlaw24_Free_walk hm O.has
  refine ⟨_, _, hcall, ?_⟩; ((conv=>whnf); repeat ((first|refine RegS.stepH ?_|refine RegXS.stepH ?_);(conv=>whnf)))
  refine CodeS.joinWS hm (nn := 106) (σ := (List Nat) × Unit) (fun s => s.1) (fun (v4, _) h => Own vars h0 [((some g1), .cells (flatC (v4.map n8)) false)] h ∧ True) (fun (v4, _) => [(2, (FP (encCirc p0))), (5, (.slice (some ⟨g1, 0, none⟩) p0.nodes.length p0.nodes.length))]) rfl (fun hm' => ?_) ?_
  · replace hm := hm'
    refine CodeS.step ?_;(conv=>whnf)
    refine CodeS.step ?_; ((conv=>whnf); repeat ((first|refine RegS.stepH ?_|refine RegXS.stepH ?_);(conv=>whnf)))
    refine CodeS.step ?_;(conv=>whnf)
    refine CodeS.step ?_;(conv=>whnf)
    refine loopWK hM (by kernel_rfl) (nn := 106) (S := ((List Nat) × Nat)) (σ := ((List Nat) × Nat) × Unit) (fun s => s.1) (fun ((v6, v7), _) h => Own vars h0 [((some g1), .cells (flatC (v6.map n8)) false)] h ∧ True) (fun ((v6, v7), _) => [(1, (i64 p1)), (2, (FP (encCirc p0))), (5, (.slice (some ⟨g1, 0, none⟩) p0.nodes.length p0.nodes.length)), (6, ((encL 1 i64) r3)), (7, (i64 v7))]) rfl (((List.replicate p0.nodes.length (0 : Nat)), 0), ()) hm ⟨O, trivial⟩ ⟨VLe.refl _ _, VLe.refl _ _, VLe.refl _ _, VLe.refl _ _, VLe.refl _ _, trivial⟩ ?_
    clear hm; rintro ⟨⟨v6, v7⟩, _⟩ nx8 base h hm ⟨O, _⟩
    (conv=>whnf)
    refine CodeS.step ?_;(conv=>whnf)
    refine CodeS.step ?_;(conv=>whnf)
    refine CodeS.step ?_; ((conv=>whnf); repeat ((first|refine RegS.stepH ?_|refine RegXS.stepH ?_);(conv=>whnf)))
    refine lenM (s := 1) (enc := i64) (l := r3) rfl rfl ?_; ((conv=>whnf); repeat ((first|refine RegS.stepH ?_|refine RegXS.stepH ?_);(conv=>whnf)))
    refine CodeS.step ?_;(conv=>whnf)
    refine ⟨_, rfl, fun hc => ?_, fun hc => ?_⟩
    · replace hm := hm.1 hc
      refine CodeS.step ?_;(conv=>whnf)
      refine CodeS.step ?_;(conv=>whnf)
      refine CodeS.step ?_;(conv=>whnf)
      refine CodeS.step ?_; ((conv=>whnf); repeat ((first|refine RegS.stepH ?_|refine RegXS.stepH ?_);(conv=>whnf)))
      obtain ⟨x9, hx9, hm⟩ := hm
      refine flAtM (s := 1) (enc := i64) (j := v7) rfl rfl rfl rfl hx9 ?_; ((conv=>whnf); repeat ((first|refine RegS.stepH ?_|refine RegXS.stepH ?_);(conv=>whnf)))
      refine ⟨_, (rfl : aread _ _ _ _ = some _), ?_⟩; ((conv=>whnf); repeat ((first|refine RegS.stepH ?_|refine RegXS.stepH ?_);(conv=>whnf)))
      refine ⟨.inl rfl, ?_⟩; ((conv=>whnf); repeat ((first|refine RegS.stepH ?_|refine RegXS.stepH ?_);(conv=>whnf)))
      refine ⟨_, shiftK (.inr rfl) rfl rfl (shr_small p1 v7 hm.1), ?_⟩; ((conv=>whnf); repeat ((first|refine RegS.stepH ?_|refine RegXS.stepH ?_);(conv=>whnf)))
      replace hm := hm.2
      refine ⟨_, remK (a := (p1 / 2 ^ v7)) (b := 2) rfl rfl hm.1, ?_⟩; ((conv=>whnf); repeat ((first|refine RegS.stepH ?_|refine RegXS.stepH ?_);(conv=>whnf)))
      replace hm := hm.2
      refine ⟨_, convWrapK (a := Int.ofNat ((p1 / 2 ^ v7) % 2)) (b := Int.ofNat (((p1 / 2 ^ v7) % 2) % 256)) rfl rfl rfl rfl, ?_⟩; ((conv=>whnf); repeat ((first|refine RegS.stepH ?_|refine RegXS.stepH ?_);(conv=>whnf)))
      (first | refine ⟨.inl rfl, ?_⟩ | refine ⟨.inr (.inr rfl), ?_⟩ | refine ⟨.inr (.inr (loadK rfl (O.at (.head _)) rfl rfl)), ?_⟩ | refine ⟨.inr (.inr (loadK rfl (O.at (.tail _ (.head _))) rfl rfl)), ?_⟩ | refine ⟨.inr (.inr (loadK rfl (O.at (.tail _ (.tail _ (.head _)))) rfl rfl)), ?_⟩ | refine ⟨.inr (.inr (loadK rfl (O.at (.tail _ (.tail _ (.tail _ (.head _))))) rfl rfl)), ?_⟩ | refine ⟨.inl (Ext.refl _), ?_⟩ | refine ⟨.inr (by kernel_rfl), ?_⟩ | refine ⟨.inl (by kernel_rfl), ?_⟩); ((conv=>whnf); repeat ((first|refine RegS.stepH ?_|refine RegXS.stepH ?_);(conv=>whnf)))
      obtain ⟨hj, x10, hx10, hm⟩ := hm
      refine indexK (s := 1) (j := x9) rfl rfl rfl rfl hj ?_; ((conv=>whnf); repeat ((first|refine RegS.stepH ?_|refine RegXS.stepH ?_);(conv=>whnf)))
      refine O.store (n := 1) (.head _) rfl rfl rfl rfl (el_le (enc := n8) (s := 1) (k := 0) (n := 1) (fun _ => rfl) (lt_of_get hx10) (Nat.le_of_ble_eq_true rfl)) rfl (splice_all (enc := n8) (s := 1) (fun _ => rfl) (lt_of_get hx10) (x := (((p1 / 2 ^ v7) % 2) % 256)) rfl) fun h O => ?_; ((conv=>whnf); repeat ((first|refine RegS.stepH ?_|refine RegXS.stepH ?_);(conv=>whnf)))
      (first | refine ⟨.inl rfl, ?_⟩ | refine ⟨.inr (.inr rfl), ?_⟩ | refine ⟨.inr (.inr (loadK rfl (O.at (.head _)) rfl rfl)), ?_⟩ | refine ⟨.inr (.inr (loadK rfl (O.at (.tail _ (.head _))) rfl rfl)), ?_⟩ | refine ⟨.inr (.inr (loadK rfl (O.at (.tail _ (.tail _ (.head _)))) rfl rfl)), ?_⟩ | refine ⟨.inr (.inr (loadK rfl (O.at (.tail _ (.tail _ (.tail _ (.head _))))) rfl rfl)), ?_⟩ | refine ⟨.inl (Ext.refl _), ?_⟩ | refine ⟨.inr (by kernel_rfl), ?_⟩ | refine ⟨.inl (by kernel_rfl), ?_⟩); ((conv=>whnf); repeat ((first|refine RegS.stepH ?_|refine RegXS.stepH ?_);(conv=>whnf)))
      refine CodeS.step ?_; ((conv=>whnf); repeat ((first|refine RegS.stepH ?_|refine RegXS.stepH ?_);(conv=>whnf)))
      refine ⟨_, addK (a := v7) (b := 1) rfl rfl hm.1, ?_⟩; ((conv=>whnf); repeat ((first|refine RegS.stepH ?_|refine RegXS.stepH ?_);(conv=>whnf)))
      replace hm := hm.2
      exact ⟨(((v6.set x9 (((p1 / 2 ^ v7) % 2) % 256)), (v7 + 1)), ()), hm, ⟨O, trivial⟩, VLe.refl _ _, VLe.refl _ _, VLe.refl _ _, VLe.refl _ _, VLe.refl _ _, trivial⟩
    · replace hm := hm.2 hc
      refine CodeS.step ?_;(conv=>whnf)
      exact ⟨(v6, ()), hm, ⟨O, trivial⟩, VLe.refl _ _, VLe.refl _ _, trivial⟩
  · clear hm; rintro ⟨v4, _⟩ base h hm ⟨O, _⟩
    (conv=>whnf)
    refine CodeS.step ?_;(conv=>whnf)
    refine CodeS.step ?_; ((conv=>whnf); repeat ((first|refine RegS.stepH ?_|refine RegXS.stepH ?_);(conv=>whnf)))
    refine ⟨_, (rfl : aread _ _ _ _ = some _), ?_⟩; ((conv=>whnf); repeat ((first|refine RegS.stepH ?_|refine RegXS.stepH ?_);(conv=>whnf)))
    obtain ⟨r11, hm, hcall⟩ := netlists_Order_walk hm O.has
    refine ⟨_, _, hcall, ?_⟩; ((conv=>whnf); repeat ((first|refine RegS.stepH ?_|refine RegXS.stepH ?_);(conv=>whnf)))
    refine CodeS.joinWS hm (nn := 106) (σ := (List Nat) × Unit) (fun s => s.1) (fun (v12, _) h => Own vars h0 [((some g1), .cells (flatC (v12.map n8)) false)] h ∧ True) (fun (v12, _) => [(5, (.slice (some ⟨g1, 0, none⟩) p0.nodes.length p0.nodes.length))]) rfl (fun hm' => ?_) ?_
    · replace hm := hm'
      refine CodeS.step ?_;(conv=>whnf)
      refine CodeS.step ?_; ((conv=>whnf); repeat ((first|refine RegS.stepH ?_|refine RegXS.stepH ?_);(conv=>whnf)))
      refine CodeS.step ?_;(conv=>whnf)
      refine CodeS.step ?_;(conv=>whnf)
      refine loopWK hM (by kernel_rfl) (nn := 106) (S := ((List Nat) × Nat)) (σ := ((List Nat) × Nat) × Unit) (fun s => s.1) (fun ((v14, v15), _) h => Own vars h0 [((some g1), .cells (flatC (v14.map n8)) false)] h ∧ True) (fun ((v14, v15), _) => [(2, (FP (encCirc p0))), (5, (.slice (some ⟨g1, 0, none⟩) p0.nodes.length p0.nodes.length)), (8, ((encL 1 i64) r11.1)), (10, (i64 v15))]) rfl ((v4, 0), ()) hm ⟨O, trivial⟩ ⟨VLe.refl _ _, VLe.refl _ _, VLe.refl _ _, VLe.refl _ _, trivial⟩ ?_
      clear hm; rintro ⟨⟨v14, v15⟩, _⟩ nx16 base h hm ⟨O, _⟩
      (conv=>whnf)
      refine CodeS.step ?_;(conv=>whnf)
      refine CodeS.step ?_;(conv=>whnf)
      refine CodeS.step ?_; ((conv=>whnf); repeat ((first|refine RegS.stepH ?_|refine RegXS.stepH ?_);(conv=>whnf)))
      refine lenM (s := 1) (enc := i64) (l := r11.1) rfl rfl ?_; ((conv=>whnf); repeat ((first|refine RegS.stepH ?_|refine RegXS.stepH ?_);(conv=>whnf)))
      refine CodeS.step ?_;(conv=>whnf)
      refine ⟨_, rfl, fun hc => ?_, fun hc => ?_⟩
      · replace hm := hm.1 hc
        refine CodeS.step ?_;(conv=>whnf)
        refine CodeS.joinWS hm (nn := 106) (σ := (List Nat) × Unit) (fun s => s.1) (fun (v17, _) h => Own vars h0 [((some g1), .cells (flatC (v17.map n8)) false)] h ∧ True) (fun (v17, _) => [(2, (FP (encCirc p0))), (5, (.slice (some ⟨g1, 0, none⟩) p0.nodes.length p0.nodes.length)), (8, ((encL 1 i64) r11.1)), (10, (i64 v15))]) rfl (fun hm' => ?_) ?_
        · replace hm := hm'
          refine CodeS.step ?_;(conv=>whnf)
          refine CodeS.step ?_;(conv=>whnf)
          refine CodeS.step ?_; ((conv=>whnf); repeat ((first|refine RegS.stepH ?_|refine RegXS.stepH ?_);(conv=>whnf)))
          obtain ⟨x19, hx19, hm⟩ := hm
          refine flAtM (s := 1) (enc := i64) (j := v15) rfl rfl rfl rfl hx19 ?_; ((conv=>whnf); repeat ((first|refine RegS.stepH ?_|refine RegXS.stepH ?_);(conv=>whnf)))
          refine ⟨_, (rfl : aread _ _ _ _ = some _), ?_⟩; ((conv=>whnf); repeat ((first|refine RegS.stepH ?_|refine RegXS.stepH ?_);(conv=>whnf)))
          refine CodeS.step ?_;(conv=>whnf)
          refine CodeS.joinWS hm (nn := 106) (σ := Bool × Unit) (fun s => s.1) (fun (v20, _) h => Own vars h0 [((some g1), .cells (flatC (v14.map n8)) false)] h ∧ True) (fun (v20, _) => [(2, (FP (encCirc p0))), (5, (.slice (some ⟨g1, 0, none⟩) p0.nodes.length p0.nodes.length)), (8, ((encL 1 i64) r11.1)), (10, (i64 v15)), (11, (i64 x19)), (67, (.bool v20))]) rfl (fun hm' => ?_) ?_
          · replace hm := hm'
            refine CodeS.step ?_; ((conv=>whnf); repeat ((first|refine RegS.stepH ?_|refine RegXS.stepH ?_);(conv=>whnf)))
            refine ⟨_, (rfl : aread _ _ _ _ = some _), ?_⟩; ((conv=>whnf); repeat ((first|refine RegS.stepH ?_|refine RegXS.stepH ?_);(conv=>whnf)))
            obtain ⟨x22, hx22, hm⟩ := hm
            refine flAtM (s := 4) (enc := encNode) (j := x19) rfl rfl rfl rfl hx22 ?_; ((conv=>whnf); repeat ((first|refine RegS.stepH ?_|refine RegXS.stepH ?_);(conv=>whnf)))
            refine ⟨_, (rfl : aread _ _ _ _ = some _), ?_⟩; ((conv=>whnf); repeat ((first|refine RegS.stepH ?_|refine RegXS.stepH ?_);(conv=>whnf)))
            refine ⟨_, rfl, fun hc => ?_, fun hc => ?_⟩
            · replace hm := hm.1 hc; ((conv=>whnf); repeat ((first|refine RegS.stepH ?_|refine RegXS.stepH ?_);(conv=>whnf)))
              exact ⟨(true, ()), hm, ⟨O, trivial⟩, VLe.refl _ _, VLe.refl _ _, VLe.refl _ _, VLe.refl _ _, VLe.refl _ _, VLe.refl _ _, trivial⟩
            · replace hm := hm.2 hc; ((conv=>whnf); repeat ((first|refine RegS.stepH ?_|refine RegXS.stepH ?_);(conv=>whnf)))
              refine ⟨_, (rfl : aread _ _ _ _ = some _), ?_⟩; ((conv=>whnf); repeat ((first|refine RegS.stepH ?_|refine RegXS.stepH ?_);(conv=>whnf)))
              obtain ⟨x23, hx23, hm⟩ := hm
              refine flAtM (s := 4) (enc := encNode) (j := x19) rfl rfl rfl rfl hx23 ?_; ((conv=>whnf); repeat ((first|refine RegS.stepH ?_|refine RegXS.stepH ?_);(conv=>whnf)))
              refine ⟨_, (rfl : aread _ _ _ _ = some _), ?_⟩; ((conv=>whnf); repeat ((first|refine RegS.stepH ?_|refine RegXS.stepH ?_);(conv=>whnf)))
              exact ⟨((eqN x23.kind 14), ()), hm, ⟨O, trivial⟩, VLe.refl _ _, VLe.refl _ _, VLe.refl _ _, VLe.refl _ _, VLe.refl _ _, VLe.refl _ _, trivial⟩
          · clear hm; rintro ⟨v20, _⟩ base h hm ⟨O, _⟩
            (conv=>whnf)
            refine CodeS.step ?_;(conv=>whnf)
            refine ⟨_, rfl, fun hc => ?_, fun hc => ?_⟩
            · replace hm := hm.1 hc
              refine CodeS.step ?_;(conv=>whnf)
              exact ⟨(v14, ()), hm, ⟨O, trivial⟩, VLe.refl _ _, VLe.refl _ _, VLe.refl _ _, VLe.refl _ _, trivial⟩
            · replace hm := hm.2 hc
              refine CodeS.step ?_;(conv=>whnf)
              refine CodeS.step ?_;(conv=>whnf)
              refine CodeS.step ?_; ((conv=>whnf); repeat ((first|refine RegS.stepH ?_|refine RegXS.stepH ?_);(conv=>whnf)))
              have O := O.addNil (.cells (flatC ((([] : List Nat)).map n8)) false)
              refine CodeS.joinWS hm (nn := 106) (σ := (List Nat) × Option Nat) (fun s => s.1) (fun (v26, a25) h => (a25 = none → v26 = []) ∧ Own vars h0 [((some g1), .cells (flatC (v14.map n8)) false), (a25, .cells (flatC (v26.map n8)) false)] h ∧ True) (fun (v26, a25) => [(2, (FP (encCirc p0))), (5, (.slice (some ⟨g1, 0, none⟩) p0.nodes.length p0.nodes.length)), (8, ((encL 1 i64) r11.1)), (10, (i64 v15)), (11, (i64 x19)), (12, (growV 1 a25 (v26.map n8)))]) rfl (fun hm' => ?_) ?_
              · replace hm := hm'
                refine CodeS.step ?_;(conv=>whnf)
                refine CodeS.step ?_; ((conv=>whnf); repeat ((first|refine RegS.stepH ?_|refine RegXS.stepH ?_);(conv=>whnf)))
                refine CodeS.step ?_;(conv=>whnf)
                refine CodeS.step ?_;(conv=>whnf)
                refine loopWK hM (by kernel_rfl) (nn := 106) (S := ((List Nat) × Nat)) (σ := ((List Nat) × Nat) × Option Nat) (fun s => s.1) (fun ((v30, v31), a29) h => (a29 = none → v30 = []) ∧ Own vars h0 [((some g1), .cells (flatC (v14.map n8)) false), (a29, .cells (flatC (v30.map n8)) false)] h ∧ True) (fun ((v30, v31), a29) => [(2, (FP (encCirc p0))), (5, (.slice (some ⟨g1, 0, none⟩) p0.nodes.length p0.nodes.length)), (8, ((encL 1 i64) r11.1)), (10, (i64 v15)), (11, (i64 x19)), (12, (growV 1 a29 (v30.map n8))), (13, (i64 v31))]) rfl ((([] : List Nat), 0), none) hm ⟨(fun _ => rfl), (O.sel [1, 0] (by decide)), trivial⟩ ⟨VLe.refl _ _, VLe.refl _ _, VLe.refl _ _, VLe.refl _ _, VLe.refl _ _, VLe.refl _ _, VLe.refl _ _, trivial⟩ ?_
                clear hm; rintro ⟨⟨v30, v31⟩, a29⟩ nx33 base h hm ⟨ha32, O, _⟩
                (conv=>whnf)
                refine CodeS.step ?_;(conv=>whnf)
                refine CodeS.step ?_;(conv=>whnf)
                refine CodeS.step ?_; ((conv=>whnf); repeat ((first|refine RegS.stepH ?_|refine RegXS.stepH ?_);(conv=>whnf)))
                refine ⟨_, (rfl : aread _ _ _ _ = some _), ?_⟩; ((conv=>whnf); repeat ((first|refine RegS.stepH ?_|refine RegXS.stepH ?_);(conv=>whnf)))
                obtain ⟨x34, hx34, hm⟩ := hm
                refine flAtM (s := 4) (enc := encNode) (j := x19) rfl rfl rfl rfl hx34 ?_; ((conv=>whnf); repeat ((first|refine RegS.stepH ?_|refine RegXS.stepH ?_);(conv=>whnf)))
                refine ⟨_, (rfl : aread _ _ _ _ = some _), ?_⟩; ((conv=>whnf); repeat ((first|refine RegS.stepH ?_|refine RegXS.stepH ?_);(conv=>whnf)))
                refine lenM (s := 1) (enc := i64) (l := x34.ins) rfl rfl ?_; ((conv=>whnf); repeat ((first|refine RegS.stepH ?_|refine RegXS.stepH ?_);(conv=>whnf)))
                refine CodeS.step ?_;(conv=>whnf)
                refine ⟨_, rfl, fun hc => ?_, fun hc => ?_⟩
                · replace hm := hm.1 hc
                  refine CodeS.step ?_;(conv=>whnf)
                  refine CodeS.step ?_;(conv=>whnf)
                  refine CodeS.step ?_;(conv=>whnf)
                  refine CodeS.step ?_; ((conv=>whnf); repeat ((first|refine RegS.stepH ?_|refine RegXS.stepH ?_);(conv=>whnf)))
                  refine ⟨_, (rfl : aread _ _ _ _ = some _), ?_⟩; ((conv=>whnf); repeat ((first|refine RegS.stepH ?_|refine RegXS.stepH ?_);(conv=>whnf)))
                  obtain ⟨x35, hx35, hm⟩ := hm
                  refine flAtM (s := 4) (enc := encNode) (j := x19) rfl rfl rfl rfl hx35 ?_; ((conv=>whnf); repeat ((first|refine RegS.stepH ?_|refine RegXS.stepH ?_);(conv=>whnf)))
                  refine ⟨_, (rfl : aread _ _ _ _ = some _), ?_⟩; ((conv=>whnf); repeat ((first|refine RegS.stepH ?_|refine RegXS.stepH ?_);(conv=>whnf)))
                  obtain ⟨x36, hx36, hm⟩ := hm
                  refine flAtM (s := 1) (enc := i64) (j := v31) rfl rfl rfl rfl hx36 ?_; ((conv=>whnf); repeat ((first|refine RegS.stepH ?_|refine RegXS.stepH ?_);(conv=>whnf)))
                  refine ⟨_, (rfl : aread _ _ _ _ = some _), ?_⟩; ((conv=>whnf); repeat ((first|refine RegS.stepH ?_|refine RegXS.stepH ?_);(conv=>whnf)))
                  obtain ⟨hj, x37, hx37, hm⟩ := hm
                  refine indexK (s := 1) (j := x36) rfl rfl rfl rfl hj ?_; ((conv=>whnf); repeat ((first|refine RegS.stepH ?_|refine RegXS.stepH ?_);(conv=>whnf)))
                  refine ⟨_, loadK rfl (O.at (.head _)) rfl (cell_map (enc := n8) (s := 1) (k := 0) (fun _ => rfl) hx37 rfl), ?_⟩; ((conv=>whnf); repeat ((first|refine RegS.stepH ?_|refine RegXS.stepH ?_);(conv=>whnf)))
                  refine NewG.frz rfl ?_; ((conv=>whnf); repeat ((first|refine RegS.stepH ?_|refine RegXS.stepH ?_);(conv=>whnf)))
                  refine O.appendL (enc := n8) (l := v30) (new := ([x37] : (List Nat))) (s := 1) (b := 1) (.tail _ (.head _)) ha32 rfl rfl rfl rfl rfl rfl rfl rfl (YOk.fl rfl) (fun _ => rfl) (fun _ => rfl) (by decide) hm.1 fun a38 h ha39 O => ?_; ((conv=>whnf); repeat ((first|refine RegS.stepH ?_|refine RegXS.stepH ?_);(conv=>whnf)))
                  replace hm := hm.2
                  refine CodeS.step ?_; ((conv=>whnf); repeat ((first|refine RegS.stepH ?_|refine RegXS.stepH ?_);(conv=>whnf)))
                  refine ⟨_, addK (a := v31) (b := 1) rfl rfl hm.1, ?_⟩; ((conv=>whnf); repeat ((first|refine RegS.stepH ?_|refine RegXS.stepH ?_);(conv=>whnf)))
                  replace hm := hm.2
                  exact ⟨(((v30 ++ ([x37] : (List Nat))), (v31 + 1)), a38), hm, ⟨ha39, O, trivial⟩, VLe.refl _ _, VLe.refl _ _, VLe.refl _ _, VLe.refl _ _, VLe.refl _ _, VLe.refl _ _, VLe.refl _ _, trivial⟩
                · replace hm := hm.2 hc
                  refine CodeS.step ?_;(conv=>whnf)
                  exact ⟨(v30, a29), hm, ⟨ha32, O, trivial⟩, VLe.refl _ _, VLe.refl _ _, VLe.refl _ _, VLe.refl _ _, VLe.refl _ _, VLe.refl _ _, trivial⟩
              · clear hm; rintro ⟨v26, a25⟩ base h hm ⟨ha27, O, _⟩
                (conv=>whnf)
                refine CodeS.step ?_; ((conv=>whnf); repeat ((first|refine RegS.stepH ?_|refine RegXS.stepH ?_);(conv=>whnf)))
                refine ⟨_, (rfl : aread _ _ _ _ = some _), ?_⟩; ((conv=>whnf); repeat ((first|refine RegS.stepH ?_|refine RegXS.stepH ?_);(conv=>whnf)))
                obtain ⟨x40, hx40, hm⟩ := hm
                refine flAtM (s := 4) (enc := encNode) (j := x19) rfl rfl rfl rfl hx40 ?_; ((conv=>whnf); repeat ((first|refine RegS.stepH ?_|refine RegXS.stepH ?_);(conv=>whnf)))
                refine ⟨_, (rfl : aread _ _ _ _ = some _), ?_⟩; ((conv=>whnf); repeat ((first|refine RegS.stepH ?_|refine RegXS.stepH ?_);(conv=>whnf)))
                refine CallD.useB (fun _ hb => logic_Eval_walk hm hb) (fun _ => flatB_ok rfl) fzVars O.has (fun h2 F => (LLe.cons (VLe.refl _ _) (LLe.cons (O.grownL F (Nat.zero_le _) (.tail _ (.head _)) ha27 (fun _ => rfl)) (LLe.nil _)))) (by kernel_rfl) (fun r41 hm' => ?_); replace hm := hm'; ((conv=>whnf); repeat ((first|refine RegS.stepH ?_|refine RegXS.stepH ?_);(conv=>whnf)))
                obtain ⟨hj, x42, hx42, hm⟩ := hm
                refine indexK (s := 1) (j := x19) rfl rfl rfl rfl hj ?_; ((conv=>whnf); repeat ((first|refine RegS.stepH ?_|refine RegXS.stepH ?_);(conv=>whnf)))
                refine O.store (n := 1) (.head _) rfl rfl rfl rfl (el_le (enc := n8) (s := 1) (k := 0) (n := 1) (fun _ => rfl) (lt_of_get hx42) (Nat.le_of_ble_eq_true rfl)) rfl (splice_all (enc := n8) (s := 1) (fun _ => rfl) (lt_of_get hx42) (x := r41) rfl) fun h O => ?_; ((conv=>whnf); repeat ((first|refine RegS.stepH ?_|refine RegXS.stepH ?_);(conv=>whnf)))
                exact ⟨((v14.set x19 r41), ()), hm, ⟨(O.sel [0] (by decide)), trivial⟩, VLe.refl _ _, VLe.refl _ _, VLe.refl _ _, VLe.refl _ _, trivial⟩
        · clear hm; rintro ⟨v17, _⟩ base h hm ⟨O, _⟩
          (conv=>whnf)
          refine CodeS.step ?_; ((conv=>whnf); repeat ((first|refine RegS.stepH ?_|refine RegXS.stepH ?_);(conv=>whnf)))
          refine ⟨_, addK (a := v15) (b := 1) rfl rfl hm.1, ?_⟩; ((conv=>whnf); repeat ((first|refine RegS.stepH ?_|refine RegXS.stepH ?_);(conv=>whnf)))
          replace hm := hm.2
          exact ⟨((v17, (v15 + 1)), ()), hm, ⟨O, trivial⟩, VLe.refl _ _, VLe.refl _ _, VLe.refl _ _, VLe.refl _ _, trivial⟩
      · replace hm := hm.2 hc
        refine CodeS.step ?_;(conv=>whnf)
        exact ⟨(v14, ()), hm, ⟨O, trivial⟩, VLe.refl _ _, trivial⟩
    · clear hm; rintro ⟨v12, _⟩ base h hm ⟨O, _⟩
      (conv=>whnf)
      refine CodeS.step ?_;(conv=>whnf)
      refine CodeS.step ?_; ((conv=>whnf); repeat ((first|refine RegS.stepH ?_|refine RegXS.stepH ?_);(conv=>whnf)))
      refine CodeS.step ?_;(conv=>whnf)
      obtain ⟨hn43, hm⟩ := hm
      exact ⟨v12, hm, O.ext, fun h2 F => O.flatL F (Nat.le_refl _) (.head _) (fun _ => rfl) hn43⟩
def probecardlaw24_Small_wp (p0 : CData) (p1 : Nat) (K : (Circ × (List Nat)) → Prop) : Prop :=
  law24_Plain_wp p0 (fun r3 => probecardlaw24_Free_wp r3 (fun r6 => joinW (α := Bool) (fun k8 => ((ltN 30 r3.nodes.length) = true → k8 true) ∧ ((ltN 30 r3.nodes.length) = false → k8 (ltN p1 r6.length))) (fun v7 => (v7 = true → K ((⟨[], [], [], []⟩ : Circ), [])) ∧ (v7 = false → K (r3, r6)))))
set_option maxHeartbeats 8000000 in
theorem probecardlaw24_Small_walk {p0 : CData} {p1 : Nat} {K : (Circ × (List Nat)) → Prop} (hm : probecardlaw24_Small_wp p0 p1 K) {h0 : Heap} (hB : HasB vars h0) : ∃ r, K r ∧ CallD Tryd.prog NG 20 ⟨[encC p0, i64 p1]⟩ h0 ((fun (r : (Circ × (List Nat))) => Value.tuple ⟨[encCirc (r.1), (encL 1 i64) (r.2)]⟩) r) h0 := by
  unfold probecardlaw24_Small_wp at hm
  refine fnW hM Tryd.func20 rfl (hP _ _ rfl Tryd.func20) (Nat.le_of_ble_eq_true rfl) hB (enc := (fun (r : (Circ × (List Nat))) => Value.tuple ⟨[encCirc (r.1), (encL 1 i64) (r.2)]⟩)) (fun r => PureV.tup (AllPure.cons (pure_circ _) (AllPure.cons (pureL (fun _ => AllPure.cons (PureV.flat rfl) AllPure.nil)) (AllPure.nil)))) fun O => ?_;(conv=>whnf)
  refine CodeS.step ?_;(conv=>whnf)
  refine CodeS.step ?_; ((conv=>whnf); repeat ((first|refine RegS.stepH ?_|refine RegXS.stepH ?_);(conv=>whnf)))
  refine NewG.frz rfl ?_; ((conv=>whnf); repeat ((first|refine RegS.stepH ?_|refine RegXS.stepH ?_);(conv=>whnf)))
  (first | refine O.new (anew_alloc (l := [(.slice none 0 0), (.slice none 0 0), (.slice none 0 0), (.slice none 0 0)]) rfl rfl rfl) fun g1 h O => ?_ | refine O.newX (anew_alloc (l := [(.slice none 0 0), (.slice none 0 0), (.slice none 0 0), (.slice none 0 0)]) rfl rfl rfl) fun g1 h O => ?_); ((conv=>whnf); repeat ((first|refine RegS.stepH ?_|refine RegXS.stepH ?_);(conv=>whnf)))
  refine CodeS.step ?_;(conv=>whnf)
  refine CodeS.step ?_; ((conv=>whnf); repeat ((first|refine RegS.stepH ?_|refine RegXS.stepH ?_);(conv=>whnf)))
  refine ⟨_, (rfl : aread _ _ _ _ = some _), ?_⟩; ((conv=>whnf); repeat ((first|refine RegS.stepH ?_|refine RegXS.stepH ?_);(conv=>whnf)))
  obtain ⟨r3, hm, hcall⟩ := law24_Plain_walk hm O.has
  refine ⟨_, _, hcall, ?_⟩; ((conv=>whnf); repeat ((first|refine RegS.stepH ?_|refine RegXS.stepH ?_);(conv=>whnf)))
  (first | refine O.new (anew_alloc (l := [(.slice none 0 0), (.slice none 0 0), (.slice none 0 0), (.slice none 0 0)]) rfl rfl rfl) fun g4 h O => ?_ | refine O.newX (anew_alloc (l := [(.slice none 0 0), (.slice none 0 0), (.slice none 0 0), (.slice none 0 0)]) rfl rfl rfl) fun g4 h O => ?_); ((conv=>whnf); repeat ((first|refine RegS.stepH ?_|refine RegXS.stepH ?_);(conv=>whnf)))
  refine O.store (n := 4) (cs' := [((encL 4 encNode) r3.nodes), ((encL 1 Value.string) r3.names), ((encL 3 encMem) r3.mems), ((encL 1 i64) r3.outs)]) (.head _) rfl rfl rfl rfl (Nat.le_of_ble_eq_true rfl) rfl rfl fun h O => ?_; ((conv=>whnf); repeat ((first|refine RegS.stepH ?_|refine RegXS.stepH ?_);(conv=>whnf)))
  refine CodeS.step ?_;(conv=>whnf)
  refine CodeS.step ?_; ((conv=>whnf); repeat ((first|refine RegS.stepH ?_|refine RegXS.stepH ?_);(conv=>whnf)))
  refine ⟨_, loadAggK rfl (O.at (.head _)) rfl rfl (Nat.le_of_ble_eq_true rfl) rfl, ?_⟩; ((conv=>whnf); repeat ((first|refine RegS.stepH ?_|refine RegXS.stepH ?_);(conv=>whnf)))
  obtain ⟨r6, hm, hcall⟩ := probecardlaw24_Free_walk hm O.has
  refine ⟨_, _, hcall, ?_⟩; ((conv=>whnf); repeat ((first|refine RegS.stepH ?_|refine RegXS.stepH ?_);(conv=>whnf)))
  refine CodeS.step ?_;(conv=>whnf)
  refine CodeS.joinWS hm (nn := 25) (σ := Bool × Unit) (fun s => s.1) (fun (v7, _) h => Own vars h0 [((some g1), .cells [(.slice none 0 0), (.slice none 0 0), (.slice none 0 0), (.slice none 0 0)] false), ((some g4), .cells [((encL 4 encNode) r3.nodes), ((encL 1 Value.string) r3.names), ((encL 3 encMem) r3.mems), ((encL 1 i64) r3.outs)] false)] h ∧ True) (fun (v7, _) => [(4, (.pointer (some ⟨g1, 0, none⟩))), (6, (.pointer (some ⟨g4, 0, none⟩))), (7, ((encL 1 i64) r6)), (21, (.bool v7))]) rfl (fun hm' => ?_) ?_
  · replace hm := hm'
    refine CodeS.step ?_; ((conv=>whnf); repeat ((first|refine RegS.stepH ?_|refine RegXS.stepH ?_);(conv=>whnf)))
    refine ⟨_, loadK rfl (O.at (.head _)) rfl rfl, ?_⟩; ((conv=>whnf); repeat ((first|refine RegS.stepH ?_|refine RegXS.stepH ?_);(conv=>whnf)))
    refine lenM (s := 4) (enc := encNode) (l := r3.nodes) rfl rfl ?_; ((conv=>whnf); repeat ((first|refine RegS.stepH ?_|refine RegXS.stepH ?_);(conv=>whnf)))
    refine ⟨_, rfl, fun hc => ?_, fun hc => ?_⟩
    · replace hm := hm.1 hc; ((conv=>whnf); repeat ((first|refine RegS.stepH ?_|refine RegXS.stepH ?_);(conv=>whnf)))
      exact ⟨(true, ()), hm, ⟨(O.sel [1, 0] (by decide)), trivial⟩, VLe.refl _ _, VLe.refl _ _, VLe.refl _ _, VLe.refl _ _, trivial⟩
    · replace hm := hm.2 hc; ((conv=>whnf); repeat ((first|refine RegS.stepH ?_|refine RegXS.stepH ?_);(conv=>whnf)))
      refine lenM (s := 1) (enc := i64) (l := r6) rfl rfl ?_; ((conv=>whnf); repeat ((first|refine RegS.stepH ?_|refine RegXS.stepH ?_);(conv=>whnf)))
      exact ⟨((ltN p1 r6.length), ()), hm, ⟨(O.sel [1, 0] (by decide)), trivial⟩, VLe.refl _ _, VLe.refl _ _, VLe.refl _ _, VLe.refl _ _, trivial⟩
  · clear hm; rintro ⟨v7, _⟩ base h hm ⟨O, _⟩
    (conv=>whnf)
    refine CodeS.step ?_;(conv=>whnf)
    refine ⟨_, rfl, fun hc => ?_, fun hc => ?_⟩
    · replace hm := hm.1 hc
      refine CodeS.step ?_;(conv=>whnf)
      refine CodeS.step ?_; ((conv=>whnf); repeat ((first|refine RegS.stepH ?_|refine RegXS.stepH ?_);(conv=>whnf)))
      refine O.store (n := 4) (cs' := [(.slice none 0 0), (.slice none 0 0), (.slice none 0 0), (.slice none 0 0)]) (.head _) rfl rfl rfl rfl (Nat.le_of_ble_eq_true rfl) rfl rfl fun h O => ?_; ((conv=>whnf); repeat ((first|refine RegS.stepH ?_|refine RegXS.stepH ?_);(conv=>whnf)))
      refine CodeS.step ?_;(conv=>whnf)
      refine ⟨_, resAggK rfl rfl (O.at (.head _)) rfl rfl (Nat.le_of_ble_eq_true rfl) rfl, ?_⟩;(conv=>whnf)
      exact ⟨((⟨[], [], [], []⟩ : Circ), []), hm, O.ext, fun h2 F => VLe.tup (LLe.cons (VLe.agg (LLe.cons (VLe.nil _ _) (LLe.cons (VLe.nil _ _) (LLe.cons (VLe.nil _ _) (LLe.cons (VLe.nil _ _) (LLe.nil _)))))) (LLe.cons (VLe.nil _ _) (LLe.nil _)))⟩
    · replace hm := hm.2 hc
      refine CodeS.step ?_;(conv=>whnf)
      refine CodeS.step ?_;(conv=>whnf)
      refine CodeS.step ?_; ((conv=>whnf); repeat ((first|refine RegS.stepH ?_|refine RegXS.stepH ?_);(conv=>whnf)))
      refine ⟨_, loadAggK rfl (O.at (.tail _ (.head _))) rfl rfl (Nat.le_of_ble_eq_true rfl) rfl, ?_⟩; ((conv=>whnf); repeat ((first|refine RegS.stepH ?_|refine RegXS.stepH ?_);(conv=>whnf)))
      refine O.store (n := 4) (cs' := [((encL 4 encNode) r3.nodes), ((encL 1 Value.string) r3.names), ((encL 3 encMem) r3.mems), ((encL 1 i64) r3.outs)]) (.head _) rfl rfl rfl rfl (Nat.le_of_ble_eq_true rfl) rfl rfl fun h O => ?_; ((conv=>whnf); repeat ((first|refine RegS.stepH ?_|refine RegXS.stepH ?_);(conv=>whnf)))
      refine CodeS.step ?_;(conv=>whnf)
      refine ⟨_, resAggK rfl rfl (O.at (.head _)) rfl rfl (Nat.le_of_ble_eq_true rfl) rfl, ?_⟩;(conv=>whnf)
      exact ⟨(r3, r6), hm, O.ext, fun h2 F => VLe.tup (LLe.cons (VLe.refl _ _) (LLe.cons (VLe.refl _ _) (LLe.nil _)))⟩
def probecardlaw24_ImpliesOpen_wp (p0 : CData) (p1 : (List Nat)) (p2 : Nat) (K : Bool → Prop) : Prop :=
  probecardlaw24_Small_wp p0 12 (fun r1 => joinW (α := (List Nat)) (fun k8 => loopW (S := ((List Nat) × Nat)) (fun (v10, v11) nx13 => ((ltN v11 r1.1.nodes.length) = true → joinW (α := Nat) (fun k16 => ((ltN v11 p1.length) = true → ∃ x17, p1[v11]? = some x17 ∧ 0 < 3 ∧ k16 (x17 % 3)) ∧ ((ltN v11 p1.length) = false → k16 2)) (fun v14 => (v10.length + ([v14] : (List Nat)).length) * 1 ≤ 2 ^ 47 ∧ v11 + 1 < 2 ^ 63 ∧ nx13 ((v10 ++ ([v14] : (List Nat))), (v11 + 1)))) ∧ ((ltN v11 r1.1.nodes.length) = false → k8 v10)) (([] : List Nat), 0)) (fun v6 => implies_Unjustified_wp r1.1 v6 (fun r20 => p2 < 256 ∧ r1.2.length ≤ 16 ∧ 0 < (2 ^ r1.2.length) ∧ probecardlaw24_Total_wp r1.1 (p2 % (2 ^ r1.2.length)) (fun r21 => implies_Unjustified_wp r1.1 r21 (fun r22 => joinW (α := Bool) (fun k25 => ((neN r20.2 0) = true → k25 true) ∧ ((neN r20.2 0) = false → ((neN r22.2 0) = true → k25 true) ∧ ((neN r22.2 0) = false → k25 (ltN 0 r22.1.length)))) (fun v23 => (v23 = true → K false) ∧ (v23 = false → joinW (α := Nat) (fun k27 => loopW (S := (Nat × Nat)) (fun (v29, v30) nx32 => ((ltN v30 r1.1.nodes.length) = true → joinW (α := Nat) (fun k36 => joinW (α := Bool) (fun k40 => ∃ x41, r1.1.nodes[v30]? = some x41 ∧ ((eqN x41.kind 0) = true → k40 true) ∧ ((eqN x41.kind 0) = false → ∃ x42, r1.1.nodes[v30]? = some x42 ∧ ((eqN x42.kind 14) = true → k40 true) ∧ ((eqN x42.kind 14) = false → ∃ x43, v6[v30]? = some x43 ∧ k40 (eqN x43 2)))) (fun v38 => (v38 = true → k36 v29) ∧ (v38 = false → joinW (α := (List Nat)) (fun k51 => loopW (S := ((List Nat) × Nat)) (fun (v54, v55) nx58 => ∃ x59, r1.1.nodes[v30]? = some x59 ∧ ((ltN v55 x59.ins.length) = true → ∃ x60, r1.1.nodes[v30]? = some x60 ∧ ∃ x61, x60.ins[v55]? = some x61 ∧ ∃ x62, v6[x61]? = some x62 ∧ (v54.length + ([x62] : (List Nat)).length) * 1 ≤ 2 ^ 47 ∧ v55 + 1 < 2 ^ 63 ∧ nx58 ((v54 ++ ([x62] : (List Nat))), (v55 + 1))) ∧ ((ltN v55 x59.ins.length) = false → k51 v54)) (([] : List Nat), 0)) (fun v48 => ∃ x66, r1.1.nodes[v30]? = some x66 ∧ logic_Eval_wp x66.kind v48 (fun r67 => ∃ x68, v6[v30]? = some x68 ∧ ((neN r67 x68) = true → joinW (α := Bool) (fun k71 => ((!ltN v29 r20.1.length) = true → k71 true) ∧ ((!ltN v29 r20.1.length) = false → ∃ x72, r20.1[v29]? = some x72 ∧ k71 (neN x72 v30))) (fun v70 => (v70 = true → K false) ∧ (v70 = false → v29 + 1 < 2 ^ 63 ∧ k36 (v29 + 1)))) ∧ ((neN r67 x68) = false → k36 v29)))))) (fun v34 => v30 + 1 < 2 ^ 63 ∧ nx32 (v34, (v30 + 1)))) ∧ ((ltN v30 r1.1.nodes.length) = false → k27 v29)) (0, 0)) (fun v26 => ((eqN v26 r20.1.length) = true → law24_lives_wp  (fun r73 => K r73)) ∧ ((eqN v26 r20.1.length) = false → K false)))))))))
set_option maxHeartbeats 8000000 in
theorem probecardlaw24_ImpliesOpen_walk {p0 : CData} {p1 : (List Nat)} {p2 : Nat} {K : Bool → Prop} (hm : probecardlaw24_ImpliesOpen_wp p0 p1 p2 K) {h0 : Heap} (hB : HasB vars h0) : ∃ r, K r ∧ CallD Tryd.prog NG 7 ⟨[encC p0, (encL 1 n8) p1, n8 p2]⟩ h0 (Value.bool r) h0 := by
  unfold probecardlaw24_ImpliesOpen_wp at hm
  refine fnW hM Tryd.func7 rfl (hP _ _ rfl Tryd.func7) (Nat.le_of_ble_eq_true rfl) hB (enc := Value.bool) (fun r => PureV.flat rfl) fun O => ?_;(conv=>whnf)
  refine CodeS.step ?_;(conv=>whnf)
  refine CodeS.step ?_; ((conv=>whnf); repeat ((first|refine RegS.stepH ?_|refine RegXS.stepH ?_);(conv=>whnf)))
  refine NewG.frz rfl ?_; ((conv=>whnf); repeat ((first|refine RegS.stepH ?_|refine RegXS.stepH ?_);(conv=>whnf)))
  refine CodeS.step ?_;(conv=>whnf)
  refine CodeS.step ?_; ((conv=>whnf); repeat ((first|refine RegS.stepH ?_|refine RegXS.stepH ?_);(conv=>whnf)))
  refine ⟨_, (rfl : aread _ _ _ _ = some _), ?_⟩; ((conv=>whnf); repeat ((first|refine RegS.stepH ?_|refine RegXS.stepH ?_);(conv=>whnf)))
  obtain ⟨r1, hm, hcall⟩ := probecardlaw24_Small_walk hm O.has
  refine ⟨_, _, hcall, ?_⟩; ((conv=>whnf); repeat ((first|refine RegS.stepH ?_|refine RegXS.stepH ?_);(conv=>whnf)))
  (first | refine O.new (anew_alloc (l := [(.slice none 0 0), (.slice none 0 0), (.slice none 0 0), (.slice none 0 0)]) rfl rfl rfl) fun g2 h O => ?_ | refine O.newX (anew_alloc (l := [(.slice none 0 0), (.slice none 0 0), (.slice none 0 0), (.slice none 0 0)]) rfl rfl rfl) fun g2 h O => ?_); ((conv=>whnf); repeat ((first|refine RegS.stepH ?_|refine RegXS.stepH ?_);(conv=>whnf)))
  refine O.store (n := 4) (cs' := [((encL 4 encNode) r1.1.nodes), ((encL 1 Value.string) r1.1.names), ((encL 3 encMem) r1.1.mems), ((encL 1 i64) r1.1.outs)]) (.head _) rfl rfl rfl rfl (Nat.le_of_ble_eq_true rfl) rfl rfl fun h O => ?_; ((conv=>whnf); repeat ((first|refine RegS.stepH ?_|refine RegXS.stepH ?_);(conv=>whnf)))
  refine CodeS.step ?_;(conv=>whnf)
  refine CodeS.step ?_; ((conv=>whnf); repeat ((first|refine RegS.stepH ?_|refine RegXS.stepH ?_);(conv=>whnf)))
  have O := O.addNil (.cells (flatC ((([] : List Nat)).map n8)) false)
  refine CodeS.joinWS hm (nn := 165) (σ := (List Nat) × Option Nat) (fun s => s.1) (fun (v6, a5) h => (a5 = none → v6 = []) ∧ Own vars h0 [((some g2), .cells [((encL 4 encNode) r1.1.nodes), ((encL 1 Value.string) r1.1.names), ((encL 3 encMem) r1.1.mems), ((encL 1 i64) r1.1.outs)] false), (a5, .cells (flatC (v6.map n8)) false)] h ∧ True) (fun (v6, a5) => [(2, (n8 p2)), (7, (.pointer (some ⟨g2, 0, none⟩))), (8, ((encL 1 i64) r1.2)), (9, (growV 1 a5 (v6.map n8)))]) rfl (fun hm' => ?_) ?_
  · replace hm := hm'
    refine CodeS.step ?_;(conv=>whnf)
    refine CodeS.step ?_; ((conv=>whnf); repeat ((first|refine RegS.stepH ?_|refine RegXS.stepH ?_);(conv=>whnf)))
    refine CodeS.step ?_;(conv=>whnf)
    refine CodeS.step ?_;(conv=>whnf)
    refine loopWK hM (by kernel_rfl) (nn := 165) (S := ((List Nat) × Nat)) (σ := ((List Nat) × Nat) × Option Nat) (fun s => s.1) (fun ((v10, v11), a9) h => (a9 = none → v10 = []) ∧ Own vars h0 [((some g2), .cells [((encL 4 encNode) r1.1.nodes), ((encL 1 Value.string) r1.1.names), ((encL 3 encMem) r1.1.mems), ((encL 1 i64) r1.1.outs)] false), (a9, .cells (flatC (v10.map n8)) false)] h ∧ True) (fun ((v10, v11), a9) => [(1, ((encL 1 n8) p1)), (2, (n8 p2)), (7, (.pointer (some ⟨g2, 0, none⟩))), (8, ((encL 1 i64) r1.2)), (9, (growV 1 a9 (v10.map n8))), (10, (i64 v11))]) rfl ((([] : List Nat), 0), none) hm ⟨(fun _ => rfl), (O.sel [1, 0] (by decide)), trivial⟩ ⟨VLe.refl _ _, VLe.refl _ _, VLe.refl _ _, VLe.refl _ _, VLe.refl _ _, VLe.refl _ _, trivial⟩ ?_
    clear hm; rintro ⟨⟨v10, v11⟩, a9⟩ nx13 base h hm ⟨ha12, O, _⟩
    (conv=>whnf)
    refine CodeS.step ?_;(conv=>whnf)
    refine CodeS.step ?_;(conv=>whnf)
    refine CodeS.step ?_; ((conv=>whnf); repeat ((first|refine RegS.stepH ?_|refine RegXS.stepH ?_);(conv=>whnf)))
    refine ⟨_, loadK rfl (O.at (.head _)) rfl rfl, ?_⟩; ((conv=>whnf); repeat ((first|refine RegS.stepH ?_|refine RegXS.stepH ?_);(conv=>whnf)))
    refine lenM (s := 4) (enc := encNode) (l := r1.1.nodes) rfl rfl ?_; ((conv=>whnf); repeat ((first|refine RegS.stepH ?_|refine RegXS.stepH ?_);(conv=>whnf)))
    refine CodeS.step ?_;(conv=>whnf)
    refine ⟨_, rfl, fun hc => ?_, fun hc => ?_⟩
    · replace hm := hm.1 hc
      refine CodeS.step ?_;(conv=>whnf)
      refine CodeS.step ?_;(conv=>whnf)
      refine CodeS.step ?_;(conv=>whnf)
      refine CodeS.step ?_;(conv=>whnf)
      refine CodeS.step ?_; ((conv=>whnf); repeat ((first|refine RegS.stepH ?_|refine RegXS.stepH ?_);(conv=>whnf)))
      refine CodeS.joinWS hm (nn := 165) (σ := Nat × Unit) (fun s => s.1) (fun (v14, _) h => (a9 = none → v10 = []) ∧ Own vars h0 [((some g2), .cells [((encL 4 encNode) r1.1.nodes), ((encL 1 Value.string) r1.1.names), ((encL 3 encMem) r1.1.mems), ((encL 1 i64) r1.1.outs)] false), (a9, .cells (flatC (v10.map n8)) false)] h ∧ True) (fun (v14, _) => [(1, ((encL 1 n8) p1)), (2, (n8 p2)), (7, (.pointer (some ⟨g2, 0, none⟩))), (8, ((encL 1 i64) r1.2)), (9, (growV 1 a9 (v10.map n8))), (10, (i64 v11)), (11, (n8 v14))]) rfl (fun hm' => ?_) ?_
      · replace hm := hm'
        refine CodeS.step ?_;(conv=>whnf)
        refine CodeS.step ?_; ((conv=>whnf); repeat ((first|refine RegS.stepH ?_|refine RegXS.stepH ?_);(conv=>whnf)))
        refine lenM (s := 1) (enc := n8) (l := p1) rfl rfl ?_; ((conv=>whnf); repeat ((first|refine RegS.stepH ?_|refine RegXS.stepH ?_);(conv=>whnf)))
        refine CodeS.step ?_;(conv=>whnf)
        refine ⟨_, rfl, fun hc => ?_, fun hc => ?_⟩
        · replace hm := hm.1 hc
          refine CodeS.step ?_; ((conv=>whnf); repeat ((first|refine RegS.stepH ?_|refine RegXS.stepH ?_);(conv=>whnf)))
          obtain ⟨x17, hx17, hm⟩ := hm
          refine flAtM (s := 1) (enc := n8) (j := v11) rfl rfl rfl rfl hx17 ?_; ((conv=>whnf); repeat ((first|refine RegS.stepH ?_|refine RegXS.stepH ?_);(conv=>whnf)))
          refine ⟨_, (rfl : aread _ _ _ _ = some _), ?_⟩; ((conv=>whnf); repeat ((first|refine RegS.stepH ?_|refine RegXS.stepH ?_);(conv=>whnf)))
          refine ⟨_, remK (a := x17) (b := 3) rfl rfl hm.1, ?_⟩; ((conv=>whnf); repeat ((first|refine RegS.stepH ?_|refine RegXS.stepH ?_);(conv=>whnf)))
          replace hm := hm.2
          exact ⟨((x17 % 3), ()), hm, ⟨ha12, O, trivial⟩, VLe.refl _ _, VLe.refl _ _, VLe.refl _ _, VLe.refl _ _, VLe.refl _ _, VLe.refl _ _, VLe.refl _ _, trivial⟩
        · replace hm := hm.2 hc
          refine CodeS.step ?_;(conv=>whnf)
          exact ⟨(2, ()), hm, ⟨ha12, O, trivial⟩, VLe.refl _ _, VLe.refl _ _, VLe.refl _ _, VLe.refl _ _, VLe.refl _ _, VLe.refl _ _, VLe.refl _ _, trivial⟩
      · clear hm; rintro ⟨v14, _⟩ base h hm ⟨ha15, O, _⟩
        (conv=>whnf)
        refine CodeS.step ?_; ((conv=>whnf); repeat ((first|refine RegS.stepH ?_|refine RegXS.stepH ?_);(conv=>whnf)))
        refine NewG.frz rfl ?_; ((conv=>whnf); repeat ((first|refine RegS.stepH ?_|refine RegXS.stepH ?_);(conv=>whnf)))
        refine O.appendL (enc := n8) (l := v10) (new := ([v14] : (List Nat))) (s := 1) (b := 1) (.tail _ (.head _)) ha15 rfl rfl rfl rfl rfl rfl rfl rfl (YOk.fl rfl) (fun _ => rfl) (fun _ => rfl) (by decide) hm.1 fun a18 h ha19 O => ?_; ((conv=>whnf); repeat ((first|refine RegS.stepH ?_|refine RegXS.stepH ?_);(conv=>whnf)))
        replace hm := hm.2
        refine CodeS.step ?_; ((conv=>whnf); repeat ((first|refine RegS.stepH ?_|refine RegXS.stepH ?_);(conv=>whnf)))
        refine ⟨_, addK (a := v11) (b := 1) rfl rfl hm.1, ?_⟩; ((conv=>whnf); repeat ((first|refine RegS.stepH ?_|refine RegXS.stepH ?_);(conv=>whnf)))
        replace hm := hm.2
        exact ⟨(((v10 ++ ([v14] : (List Nat))), (v11 + 1)), a18), hm, ⟨ha19, O, trivial⟩, VLe.refl _ _, VLe.refl _ _, VLe.refl _ _, VLe.refl _ _, VLe.refl _ _, VLe.refl _ _, trivial⟩
    · replace hm := hm.2 hc
      refine CodeS.step ?_;(conv=>whnf)
      exact ⟨(v10, a9), hm, ⟨ha12, O, trivial⟩, VLe.refl _ _, VLe.refl _ _, VLe.refl _ _, VLe.refl _ _, trivial⟩
  · clear hm; rintro ⟨v6, a5⟩ base h hm ⟨ha7, O, _⟩
    (conv=>whnf)
    refine CodeS.step ?_;(conv=>whnf)
    refine CodeS.step ?_; ((conv=>whnf); repeat ((first|refine RegS.stepH ?_|refine RegXS.stepH ?_);(conv=>whnf)))
    refine ⟨_, loadAggK rfl (O.at (.head _)) rfl rfl (Nat.le_of_ble_eq_true rfl) rfl, ?_⟩; ((conv=>whnf); repeat ((first|refine RegS.stepH ?_|refine RegXS.stepH ?_);(conv=>whnf)))
    refine O.useG (fun _ hb => implies_Unjustified_walk hm hb) (.tail _ (.head _)) ha7 (fun _ => rfl) (i := 1) rfl (by kernel_rfl) (fun h2 q => (LLe.cons (VLe.refl _ _) (LLe.cons (q) (LLe.nil _)))) (fun r20 h hm' O => ?_); replace hm := hm'; ((conv=>whnf); repeat ((first|refine RegS.stepH ?_|refine RegXS.stepH ?_);(conv=>whnf)))
    refine CodeS.step ?_;(conv=>whnf)
    refine CodeS.step ?_; ((conv=>whnf); repeat ((first|refine RegS.stepH ?_|refine RegXS.stepH ?_);(conv=>whnf)))
    refine ⟨_, loadAggK rfl (O.at (.head _)) rfl rfl (Nat.le_of_ble_eq_true rfl) rfl, ?_⟩; ((conv=>whnf); repeat ((first|refine RegS.stepH ?_|refine RegXS.stepH ?_);(conv=>whnf)))
    first | refine ⟨.inr (.inr (loadAggK rfl (O.at (.head _)) rfl rfl (Nat.le_of_ble_eq_true rfl) rfl)), ?_⟩ | refine ⟨.inr (.inl (by kernel_rfl)), ?_⟩
    ((conv=>whnf); repeat ((first|refine RegS.stepH ?_|refine RegXS.stepH ?_);(conv=>whnf)))
    refine ⟨_, loadAggK rfl (O.at (.head _)) rfl rfl (Nat.le_of_ble_eq_true rfl) rfl, ?_⟩; ((conv=>whnf); repeat ((first|refine RegS.stepH ?_|refine RegXS.stepH ?_);(conv=>whnf)))
    first | refine ⟨.inr (.inr (loadAggK rfl (O.at (.head _)) rfl rfl (Nat.le_of_ble_eq_true rfl) rfl)), ?_⟩ | refine ⟨.inr (.inl (by kernel_rfl)), ?_⟩
    ((conv=>whnf); repeat ((first|refine RegS.stepH ?_|refine RegXS.stepH ?_);(conv=>whnf)))
    refine ⟨_, convIntK (a := Int.ofNat p2) rfl rfl rfl (wrapI64 (Nat.lt_of_lt_of_le hm.1 (by decide))), ?_⟩; ((conv=>whnf); repeat ((first|refine RegS.stepH ?_|refine RegXS.stepH ?_);(conv=>whnf)))
    (first | refine ⟨.inl rfl, ?_⟩ | refine ⟨.inr (.inr rfl), ?_⟩ | refine ⟨.inr (.inr (loadK rfl (O.at (.head _)) rfl rfl)), ?_⟩ | refine ⟨.inr (.inr (loadK rfl (O.at (.tail _ (.head _))) rfl rfl)), ?_⟩ | refine ⟨.inr (.inr (loadK rfl (O.at (.tail _ (.tail _ (.head _)))) rfl rfl)), ?_⟩ | refine ⟨.inr (.inr (loadK rfl (O.at (.tail _ (.tail _ (.tail _ (.head _))))) rfl rfl)), ?_⟩ | refine ⟨.inl (Ext.refl _), ?_⟩ | refine ⟨.inr (by kernel_rfl), ?_⟩ | refine ⟨.inl (by kernel_rfl), ?_⟩); ((conv=>whnf); repeat ((first|refine RegS.stepH ?_|refine RegXS.stepH ?_);(conv=>whnf)))
    replace hm := hm.2
    refine lenM (s := 1) (enc := i64) (l := r1.2) rfl rfl ?_; ((conv=>whnf); repeat ((first|refine RegS.stepH ?_|refine RegXS.stepH ?_);(conv=>whnf)))
    refine ⟨_, shiftK (.inl rfl) rfl rfl (shl_small r1.2.length hm.1), ?_⟩; ((conv=>whnf); repeat ((first|refine RegS.stepH ?_|refine RegXS.stepH ?_);(conv=>whnf)))
    replace hm := hm.2
    refine ⟨_, remK (a := p2) (b := (2 ^ r1.2.length)) rfl rfl hm.1, ?_⟩; ((conv=>whnf); repeat ((first|refine RegS.stepH ?_|refine RegXS.stepH ?_);(conv=>whnf)))
    replace hm := hm.2
    obtain ⟨r21, hm, hcall⟩ := probecardlaw24_Total_walk hm O.has
    refine ⟨_, _, hcall, ?_⟩; ((conv=>whnf); repeat ((first|refine RegS.stepH ?_|refine RegXS.stepH ?_);(conv=>whnf)))
    (first | refine ⟨.inl rfl, ?_⟩ | refine ⟨.inr (.inr rfl), ?_⟩ | refine ⟨.inr (.inr (loadK rfl (O.at (.head _)) rfl rfl)), ?_⟩ | refine ⟨.inr (.inr (loadK rfl (O.at (.tail _ (.head _))) rfl rfl)), ?_⟩ | refine ⟨.inr (.inr (loadK rfl (O.at (.tail _ (.tail _ (.head _)))) rfl rfl)), ?_⟩ | refine ⟨.inr (.inr (loadK rfl (O.at (.tail _ (.tail _ (.tail _ (.head _))))) rfl rfl)), ?_⟩ | refine ⟨.inl (Ext.refl _), ?_⟩ | refine ⟨.inr (by kernel_rfl), ?_⟩ | refine ⟨.inl (by kernel_rfl), ?_⟩); ((conv=>whnf); repeat ((first|refine RegS.stepH ?_|refine RegXS.stepH ?_);(conv=>whnf)))
    obtain ⟨r22, hm, hcall⟩ := implies_Unjustified_walk hm O.has
    refine ⟨_, _, hcall, ?_⟩; ((conv=>whnf); repeat ((first|refine RegS.stepH ?_|refine RegXS.stepH ?_);(conv=>whnf)))
    (first | refine ⟨.inl rfl, ?_⟩ | refine ⟨.inr (.inr rfl), ?_⟩ | refine ⟨.inr (.inr (loadK rfl (O.at (.head _)) rfl rfl)), ?_⟩ | refine ⟨.inr (.inr (loadK rfl (O.at (.tail _ (.head _))) rfl rfl)), ?_⟩ | refine ⟨.inr (.inr (loadK rfl (O.at (.tail _ (.tail _ (.head _)))) rfl rfl)), ?_⟩ | refine ⟨.inr (.inr (loadK rfl (O.at (.tail _ (.tail _ (.tail _ (.head _))))) rfl rfl)), ?_⟩ | refine ⟨.inl (Ext.refl _), ?_⟩ | refine ⟨.inr (by kernel_rfl), ?_⟩ | refine ⟨.inl (by kernel_rfl), ?_⟩); ((conv=>whnf); repeat ((first|refine RegS.stepH ?_|refine RegXS.stepH ?_);(conv=>whnf)))
    refine CodeS.step ?_;(conv=>whnf)
    refine CodeS.joinWS hm (nn := 165) (σ := Bool × Unit) (fun s => s.1) (fun (v23, _) h => (a5 = none → v6 = []) ∧ Own vars h0 [((some g2), .cells [((encL 4 encNode) r1.1.nodes), ((encL 1 Value.string) r1.1.names), ((encL 3 encMem) r1.1.mems), ((encL 1 i64) r1.1.outs)] false), (a5, .cells (flatC (v6.map n8)) true)] h ∧ True) (fun (v23, _) => [(7, (.pointer (some ⟨g2, 0, none⟩))), (9, (growV 1 a5 (v6.map n8))), (12, ((encL 1 i64) r20.1)), (74, (.bool v23))]) rfl (fun hm' => ?_) ?_
    · replace hm := hm'
      refine CodeS.step ?_; ((conv=>whnf); repeat ((first|refine RegS.stepH ?_|refine RegXS.stepH ?_);(conv=>whnf)))
      refine ⟨_, rfl, fun hc => ?_, fun hc => ?_⟩
      · replace hm := hm.1 hc; ((conv=>whnf); repeat ((first|refine RegS.stepH ?_|refine RegXS.stepH ?_);(conv=>whnf)))
        refine ⟨true, rfl, fun _ => ?_, (fun hc => nomatch hc)⟩; ((conv=>whnf); repeat ((first|refine RegS.stepH ?_|refine RegXS.stepH ?_);(conv=>whnf)))
        exact ⟨(true, ()), hm, ⟨ha7, O, trivial⟩, VLe.refl _ _, VLe.refl _ _, VLe.refl _ _, VLe.refl _ _, trivial⟩
      · replace hm := hm.2 hc; ((conv=>whnf); repeat ((first|refine RegS.stepH ?_|refine RegXS.stepH ?_);(conv=>whnf)))
        refine ⟨_, rfl, fun hc => ?_, fun hc => ?_⟩
        · replace hm := hm.1 hc; ((conv=>whnf); repeat ((first|refine RegS.stepH ?_|refine RegXS.stepH ?_);(conv=>whnf)))
          exact ⟨(true, ()), hm, ⟨ha7, O, trivial⟩, VLe.refl _ _, VLe.refl _ _, VLe.refl _ _, VLe.refl _ _, trivial⟩
        · replace hm := hm.2 hc; ((conv=>whnf); repeat ((first|refine RegS.stepH ?_|refine RegXS.stepH ?_);(conv=>whnf)))
          refine lenM (s := 1) (enc := i64) (l := r22.1) rfl rfl ?_; ((conv=>whnf); repeat ((first|refine RegS.stepH ?_|refine RegXS.stepH ?_);(conv=>whnf)))
          exact ⟨((ltN 0 r22.1.length), ()), hm, ⟨ha7, O, trivial⟩, VLe.refl _ _, VLe.refl _ _, VLe.refl _ _, VLe.refl _ _, trivial⟩
    · clear hm; rintro ⟨v23, _⟩ base h hm ⟨ha24, O, _⟩
      (conv=>whnf)
      refine CodeS.step ?_;(conv=>whnf)
      refine ⟨_, rfl, fun hc => ?_, fun hc => ?_⟩
      · replace hm := hm.1 hc
        refine CodeS.step ?_;(conv=>whnf)
        refine CodeS.step ?_; ((conv=>whnf); repeat ((first|refine RegS.stepH ?_|refine RegXS.stepH ?_);(conv=>whnf)))
        refine CodeS.step ?_;(conv=>whnf)
        exact ⟨false, hm, O.ext, fun h2 F => VLe.refl _ _⟩
      · replace hm := hm.2 hc
        refine CodeS.step ?_;(conv=>whnf)
        refine CodeS.step ?_;(conv=>whnf)
        refine CodeS.step ?_; ((conv=>whnf); repeat ((first|refine RegS.stepH ?_|refine RegXS.stepH ?_);(conv=>whnf)))
        refine CodeS.joinWS hm (nn := 165) (σ := Nat × Unit) (fun s => s.1) (fun (v26, _) h => Own vars h0 [] h ∧ True) (fun (v26, _) => [(12, ((encL 1 i64) r20.1)), (16, (i64 v26))]) rfl (fun hm' => ?_) ?_
        · replace hm := hm'
          refine CodeS.step ?_;(conv=>whnf)
          refine CodeS.step ?_; ((conv=>whnf); repeat ((first|refine RegS.stepH ?_|refine RegXS.stepH ?_);(conv=>whnf)))
          refine CodeS.step ?_;(conv=>whnf)
          refine CodeS.step ?_;(conv=>whnf)
          refine loopWK hM (by kernel_rfl) (nn := 165) (S := (Nat × Nat)) (σ := (Nat × Nat) × Option Nat) (fun s => s.1) (fun ((v29, v30), a28) h => (a28 = none → v6 = []) ∧ Own vars h0 [((some g2), .cells [((encL 4 encNode) r1.1.nodes), ((encL 1 Value.string) r1.1.names), ((encL 3 encMem) r1.1.mems), ((encL 1 i64) r1.1.outs)] false), (a28, .cells (flatC (v6.map n8)) true)] h ∧ True) (fun ((v29, v30), a28) => [(7, (.pointer (some ⟨g2, 0, none⟩))), (9, (growV 1 a28 (v6.map n8))), (12, ((encL 1 i64) r20.1)), (16, (i64 v29)), (17, (i64 v30))]) rfl ((0, 0), a5) hm ⟨ha24, O, trivial⟩ ⟨VLe.refl _ _, VLe.refl _ _, VLe.refl _ _, VLe.refl _ _, VLe.refl _ _, trivial⟩ ?_
          clear hm; rintro ⟨⟨v29, v30⟩, a28⟩ nx32 base h hm ⟨ha31, O, _⟩
          (conv=>whnf)
          refine CodeS.step ?_;(conv=>whnf)
          refine CodeS.step ?_;(conv=>whnf)
          refine CodeS.step ?_; ((conv=>whnf); repeat ((first|refine RegS.stepH ?_|refine RegXS.stepH ?_);(conv=>whnf)))
          refine ⟨_, loadK rfl (O.at (.head _)) rfl rfl, ?_⟩; ((conv=>whnf); repeat ((first|refine RegS.stepH ?_|refine RegXS.stepH ?_);(conv=>whnf)))
          refine lenM (s := 4) (enc := encNode) (l := r1.1.nodes) rfl rfl ?_; ((conv=>whnf); repeat ((first|refine RegS.stepH ?_|refine RegXS.stepH ?_);(conv=>whnf)))
          refine CodeS.step ?_;(conv=>whnf)
          refine ⟨_, rfl, fun hc => ?_, fun hc => ?_⟩
          · replace hm := hm.1 hc
            refine CodeS.step ?_;(conv=>whnf)
            refine CodeS.joinWS hm (nn := 165) (σ := Nat × Option Nat) (fun s => s.1) (fun (v34, a33) h => (a33 = none → v6 = []) ∧ Own vars h0 [((some g2), .cells [((encL 4 encNode) r1.1.nodes), ((encL 1 Value.string) r1.1.names), ((encL 3 encMem) r1.1.mems), ((encL 1 i64) r1.1.outs)] false), (a33, .cells (flatC (v6.map n8)) true)] h ∧ True) (fun (v34, a33) => [(7, (.pointer (some ⟨g2, 0, none⟩))), (9, (growV 1 a33 (v6.map n8))), (12, ((encL 1 i64) r20.1)), (16, (i64 v34)), (17, (i64 v30))]) rfl (fun hm' => ?_) ?_
            · replace hm := hm'
              refine CodeS.step ?_;(conv=>whnf)
              refine CodeS.step ?_;(conv=>whnf)
              refine CodeS.joinWS hm (nn := 165) (σ := Bool × Option Nat) (fun s => s.1) (fun (v38, a37) h => (a37 = none → v6 = []) ∧ Own vars h0 [((some g2), .cells [((encL 4 encNode) r1.1.nodes), ((encL 1 Value.string) r1.1.names), ((encL 3 encMem) r1.1.mems), ((encL 1 i64) r1.1.outs)] false), (a37, .cells (flatC (v6.map n8)) true)] h ∧ True) (fun (v38, a37) => [(7, (.pointer (some ⟨g2, 0, none⟩))), (9, (growV 1 a37 (v6.map n8))), (12, ((encL 1 i64) r20.1)), (16, (i64 v29)), (17, (i64 v30)), (104, (.bool v38))]) rfl (fun hm' => ?_) ?_
              · replace hm := hm'
                refine CodeS.step ?_; ((conv=>whnf); repeat ((first|refine RegS.stepH ?_|refine RegXS.stepH ?_);(conv=>whnf)))
                refine ⟨_, loadK rfl (O.at (.head _)) rfl rfl, ?_⟩; ((conv=>whnf); repeat ((first|refine RegS.stepH ?_|refine RegXS.stepH ?_);(conv=>whnf)))
                obtain ⟨x41, hx41, hm⟩ := hm
                refine flAtM (s := 4) (enc := encNode) (j := v30) rfl rfl rfl rfl hx41 ?_; ((conv=>whnf); repeat ((first|refine RegS.stepH ?_|refine RegXS.stepH ?_);(conv=>whnf)))
                refine ⟨_, (rfl : aread _ _ _ _ = some _), ?_⟩; ((conv=>whnf); repeat ((first|refine RegS.stepH ?_|refine RegXS.stepH ?_);(conv=>whnf)))
                refine ⟨_, rfl, fun hc => ?_, fun hc => ?_⟩
                · replace hm := hm.1 hc; ((conv=>whnf); repeat ((first|refine RegS.stepH ?_|refine RegXS.stepH ?_);(conv=>whnf)))
                  refine ⟨true, rfl, fun _ => ?_, (fun hc => nomatch hc)⟩; ((conv=>whnf); repeat ((first|refine RegS.stepH ?_|refine RegXS.stepH ?_);(conv=>whnf)))
                  exact ⟨(true, a28), hm, ⟨ha31, O, trivial⟩, VLe.refl _ _, VLe.refl _ _, VLe.refl _ _, VLe.refl _ _, VLe.refl _ _, VLe.refl _ _, trivial⟩
                · replace hm := hm.2 hc; ((conv=>whnf); repeat ((first|refine RegS.stepH ?_|refine RegXS.stepH ?_);(conv=>whnf)))
                  refine ⟨_, loadK rfl (O.at (.head _)) rfl rfl, ?_⟩; ((conv=>whnf); repeat ((first|refine RegS.stepH ?_|refine RegXS.stepH ?_);(conv=>whnf)))
                  obtain ⟨x42, hx42, hm⟩ := hm
                  refine flAtM (s := 4) (enc := encNode) (j := v30) rfl rfl rfl rfl hx42 ?_; ((conv=>whnf); repeat ((first|refine RegS.stepH ?_|refine RegXS.stepH ?_);(conv=>whnf)))
                  refine ⟨_, (rfl : aread _ _ _ _ = some _), ?_⟩; ((conv=>whnf); repeat ((first|refine RegS.stepH ?_|refine RegXS.stepH ?_);(conv=>whnf)))
                  refine ⟨_, rfl, fun hc => ?_, fun hc => ?_⟩
                  · replace hm := hm.1 hc; ((conv=>whnf); repeat ((first|refine RegS.stepH ?_|refine RegXS.stepH ?_);(conv=>whnf)))
                    exact ⟨(true, a28), hm, ⟨ha31, O, trivial⟩, VLe.refl _ _, VLe.refl _ _, VLe.refl _ _, VLe.refl _ _, VLe.refl _ _, VLe.refl _ _, trivial⟩
                  · replace hm := hm.2 hc; ((conv=>whnf); repeat ((first|refine RegS.stepH ?_|refine RegXS.stepH ?_);(conv=>whnf)))
                    obtain ⟨x43, hx43, hm⟩ := hm
                    obtain ⟨g44, rfl⟩ := addr_some ha31 hx43
                    refine indexK (s := 1) (j := v30) rfl rfl rfl rfl (by rw [List.length_map]; exact lt_of_get hx43) ?_; ((conv=>whnf); repeat ((first|refine RegS.stepH ?_|refine RegXS.stepH ?_);(conv=>whnf)))
                    refine ⟨_, loadK rfl (O.at (.tail _ (.head _))) rfl (cell_map (enc := n8) (s := 1) (k := 0) (fun _ => rfl) hx43 rfl), ?_⟩; ((conv=>whnf); repeat ((first|refine RegS.stepH ?_|refine RegXS.stepH ?_);(conv=>whnf)))
                    exact ⟨((eqN x43 2), (some g44)), hm, ⟨someNone, O, trivial⟩, VLe.refl _ _, VLe.refl _ _, VLe.refl _ _, VLe.refl _ _, VLe.refl _ _, VLe.refl _ _, trivial⟩
              · clear hm; rintro ⟨v38, a37⟩ base h hm ⟨ha39, O, _⟩
                (conv=>whnf)
                refine CodeS.step ?_;(conv=>whnf)
                refine ⟨_, rfl, fun hc => ?_, fun hc => ?_⟩
                · replace hm := hm.1 hc
                  refine CodeS.step ?_;(conv=>whnf)
                  exact ⟨(v29, a37), hm, ⟨ha39, O, trivial⟩, VLe.refl _ _, VLe.refl _ _, VLe.refl _ _, VLe.refl _ _, VLe.refl _ _, trivial⟩
                · replace hm := hm.2 hc
                  refine CodeS.step ?_;(conv=>whnf)
                  refine CodeS.step ?_;(conv=>whnf)
                  refine CodeS.step ?_; ((conv=>whnf); repeat ((first|refine RegS.stepH ?_|refine RegXS.stepH ?_);(conv=>whnf)))
                  have O := O.addNil (.cells (flatC ((([] : List Nat)).map n8)) false)
                  refine CodeS.joinWS hm (nn := 165) (σ := (List Nat) × (Option Nat × Option Nat)) (fun s => s.1) (fun (v48, (a46, a47)) h => (a46 = none → v6 = []) ∧ (a47 = none → v48 = []) ∧ Own vars h0 [((some g2), .cells [((encL 4 encNode) r1.1.nodes), ((encL 1 Value.string) r1.1.names), ((encL 3 encMem) r1.1.mems), ((encL 1 i64) r1.1.outs)] false), (a46, .cells (flatC (v6.map n8)) true), (a47, .cells (flatC (v48.map n8)) false)] h ∧ True) (fun (v48, (a46, a47)) => [(7, (.pointer (some ⟨g2, 0, none⟩))), (9, (growV 1 a46 (v6.map n8))), (12, ((encL 1 i64) r20.1)), (16, (i64 v29)), (17, (i64 v30)), (18, (growV 1 a47 (v48.map n8)))]) rfl (fun hm' => ?_) ?_
                  · replace hm := hm'
                    refine CodeS.step ?_;(conv=>whnf)
                    refine CodeS.step ?_; ((conv=>whnf); repeat ((first|refine RegS.stepH ?_|refine RegXS.stepH ?_);(conv=>whnf)))
                    refine CodeS.step ?_;(conv=>whnf)
                    refine CodeS.step ?_;(conv=>whnf)
                    refine loopWK hM (by kernel_rfl) (nn := 165) (S := ((List Nat) × Nat)) (σ := ((List Nat) × Nat) × (Option Nat × Option Nat)) (fun s => s.1) (fun ((v54, v55), (a52, a53)) h => (a52 = none → v6 = []) ∧ (a53 = none → v54 = []) ∧ Own vars h0 [((some g2), .cells [((encL 4 encNode) r1.1.nodes), ((encL 1 Value.string) r1.1.names), ((encL 3 encMem) r1.1.mems), ((encL 1 i64) r1.1.outs)] false), (a52, .cells (flatC (v6.map n8)) true), (a53, .cells (flatC (v54.map n8)) false)] h ∧ True) (fun ((v54, v55), (a52, a53)) => [(7, (.pointer (some ⟨g2, 0, none⟩))), (9, (growV 1 a52 (v6.map n8))), (12, ((encL 1 i64) r20.1)), (16, (i64 v29)), (17, (i64 v30)), (18, (growV 1 a53 (v54.map n8))), (19, (i64 v55))]) rfl ((([] : List Nat), 0), (a37, none)) hm ⟨ha39, (fun _ => rfl), (O.sel [1, 2, 0] (by decide)), trivial⟩ ⟨VLe.refl _ _, VLe.refl _ _, VLe.refl _ _, VLe.refl _ _, VLe.refl _ _, VLe.refl _ _, VLe.refl _ _, trivial⟩ ?_
                    clear hm; rintro ⟨⟨v54, v55⟩, ⟨a52, a53⟩⟩ nx58 base h hm ⟨ha56, ha57, O, _⟩
                    (conv=>whnf)
                    refine CodeS.step ?_;(conv=>whnf)
                    refine CodeS.step ?_;(conv=>whnf)
                    refine CodeS.step ?_; ((conv=>whnf); repeat ((first|refine RegS.stepH ?_|refine RegXS.stepH ?_);(conv=>whnf)))
                    refine ⟨_, loadK rfl (O.at (.head _)) rfl rfl, ?_⟩; ((conv=>whnf); repeat ((first|refine RegS.stepH ?_|refine RegXS.stepH ?_);(conv=>whnf)))
                    obtain ⟨x59, hx59, hm⟩ := hm
                    refine flAtM (s := 4) (enc := encNode) (j := v30) rfl rfl rfl rfl hx59 ?_; ((conv=>whnf); repeat ((first|refine RegS.stepH ?_|refine RegXS.stepH ?_);(conv=>whnf)))
                    refine ⟨_, (rfl : aread _ _ _ _ = some _), ?_⟩; ((conv=>whnf); repeat ((first|refine RegS.stepH ?_|refine RegXS.stepH ?_);(conv=>whnf)))
                    refine lenM (s := 1) (enc := i64) (l := x59.ins) rfl rfl ?_; ((conv=>whnf); repeat ((first|refine RegS.stepH ?_|refine RegXS.stepH ?_);(conv=>whnf)))
                    refine CodeS.step ?_;(conv=>whnf)
                    refine ⟨_, rfl, fun hc => ?_, fun hc => ?_⟩
                    · replace hm := hm.1 hc
                      refine CodeS.step ?_;(conv=>whnf)
                      refine CodeS.step ?_;(conv=>whnf)
                      refine CodeS.step ?_;(conv=>whnf)
                      refine CodeS.step ?_; ((conv=>whnf); repeat ((first|refine RegS.stepH ?_|refine RegXS.stepH ?_);(conv=>whnf)))
                      refine ⟨_, loadK rfl (O.at (.head _)) rfl rfl, ?_⟩; ((conv=>whnf); repeat ((first|refine RegS.stepH ?_|refine RegXS.stepH ?_);(conv=>whnf)))
                      obtain ⟨x60, hx60, hm⟩ := hm
                      refine flAtM (s := 4) (enc := encNode) (j := v30) rfl rfl rfl rfl hx60 ?_; ((conv=>whnf); repeat ((first|refine RegS.stepH ?_|refine RegXS.stepH ?_);(conv=>whnf)))
                      refine ⟨_, (rfl : aread _ _ _ _ = some _), ?_⟩; ((conv=>whnf); repeat ((first|refine RegS.stepH ?_|refine RegXS.stepH ?_);(conv=>whnf)))
                      obtain ⟨x61, hx61, hm⟩ := hm
                      refine flAtM (s := 1) (enc := i64) (j := v55) rfl rfl rfl rfl hx61 ?_; ((conv=>whnf); repeat ((first|refine RegS.stepH ?_|refine RegXS.stepH ?_);(conv=>whnf)))
                      refine ⟨_, (rfl : aread _ _ _ _ = some _), ?_⟩; ((conv=>whnf); repeat ((first|refine RegS.stepH ?_|refine RegXS.stepH ?_);(conv=>whnf)))
                      obtain ⟨x62, hx62, hm⟩ := hm
                      obtain ⟨g63, rfl⟩ := addr_some ha56 hx62
                      refine indexK (s := 1) (j := x61) rfl rfl rfl rfl (by rw [List.length_map]; exact lt_of_get hx62) ?_; ((conv=>whnf); repeat ((first|refine RegS.stepH ?_|refine RegXS.stepH ?_);(conv=>whnf)))
                      refine ⟨_, loadK rfl (O.at (.tail _ (.head _))) rfl (cell_map (enc := n8) (s := 1) (k := 0) (fun _ => rfl) hx62 rfl), ?_⟩; ((conv=>whnf); repeat ((first|refine RegS.stepH ?_|refine RegXS.stepH ?_);(conv=>whnf)))
                      refine NewG.frz rfl ?_; ((conv=>whnf); repeat ((first|refine RegS.stepH ?_|refine RegXS.stepH ?_);(conv=>whnf)))
                      refine O.appendL (enc := n8) (l := v54) (new := ([x62] : (List Nat))) (s := 1) (b := 1) (.tail _ (.tail _ (.head _))) ha57 rfl rfl rfl rfl rfl rfl rfl rfl (YOk.fl rfl) (fun _ => rfl) (fun _ => rfl) (by decide) hm.1 fun a64 h ha65 O => ?_; ((conv=>whnf); repeat ((first|refine RegS.stepH ?_|refine RegXS.stepH ?_);(conv=>whnf)))
                      replace hm := hm.2
                      refine CodeS.step ?_; ((conv=>whnf); repeat ((first|refine RegS.stepH ?_|refine RegXS.stepH ?_);(conv=>whnf)))
                      refine ⟨_, addK (a := v55) (b := 1) rfl rfl hm.1, ?_⟩; ((conv=>whnf); repeat ((first|refine RegS.stepH ?_|refine RegXS.stepH ?_);(conv=>whnf)))
                      replace hm := hm.2
                      exact ⟨(((v54 ++ ([x62] : (List Nat))), (v55 + 1)), ((some g63), a64)), hm, ⟨someNone, ha65, O, trivial⟩, VLe.refl _ _, VLe.refl _ _, VLe.refl _ _, VLe.refl _ _, VLe.refl _ _, VLe.refl _ _, VLe.refl _ _, trivial⟩
                    · replace hm := hm.2 hc
                      refine CodeS.step ?_;(conv=>whnf)
                      exact ⟨(v54, (a52, a53)), hm, ⟨ha56, ha57, O, trivial⟩, VLe.refl _ _, VLe.refl _ _, VLe.refl _ _, VLe.refl _ _, VLe.refl _ _, VLe.refl _ _, trivial⟩
                  · clear hm; rintro ⟨v48, ⟨a46, a47⟩⟩ base h hm ⟨ha49, ha50, O, _⟩
                    (conv=>whnf)
                    refine CodeS.step ?_;(conv=>whnf)
                    refine CodeS.step ?_; ((conv=>whnf); repeat ((first|refine RegS.stepH ?_|refine RegXS.stepH ?_);(conv=>whnf)))
                    refine ⟨_, loadK rfl (O.at (.head _)) rfl rfl, ?_⟩; ((conv=>whnf); repeat ((first|refine RegS.stepH ?_|refine RegXS.stepH ?_);(conv=>whnf)))
                    first | refine ⟨.inr (.inr (loadK rfl (O.at (.head _)) rfl rfl)), ?_⟩ | refine ⟨.inr (.inl (by kernel_rfl)), ?_⟩
                    ((conv=>whnf); repeat ((first|refine RegS.stepH ?_|refine RegXS.stepH ?_);(conv=>whnf)))
                    obtain ⟨x66, hx66, hm⟩ := hm
                    refine flAtM (s := 4) (enc := encNode) (j := v30) rfl rfl rfl rfl hx66 ?_; ((conv=>whnf); repeat ((first|refine RegS.stepH ?_|refine RegXS.stepH ?_);(conv=>whnf)))
                    refine ⟨_, (rfl : aread _ _ _ _ = some _), ?_⟩; ((conv=>whnf); repeat ((first|refine RegS.stepH ?_|refine RegXS.stepH ?_);(conv=>whnf)))
                    refine ⟨.inl rfl, ?_⟩; ((conv=>whnf); repeat ((first|refine RegS.stepH ?_|refine RegXS.stepH ?_);(conv=>whnf)))
                    refine CallD.useB (fun _ hb => logic_Eval_walk hm hb) (fun _ => flatB_ok rfl) fzVars O.has (fun h2 F => (LLe.cons (VLe.refl _ _) (LLe.cons (O.grownL F (Nat.zero_le _) (.tail _ (.tail _ (.head _))) ha50 (fun _ => rfl)) (LLe.nil _)))) (by kernel_rfl) (fun r67 hm' => ?_); replace hm := hm'; ((conv=>whnf); repeat ((first|refine RegS.stepH ?_|refine RegXS.stepH ?_);(conv=>whnf)))
                    (first | refine ⟨.inl rfl, ?_⟩ | refine ⟨.inr (.inr rfl), ?_⟩ | refine ⟨.inr (.inr (loadK rfl (O.at (.head _)) rfl rfl)), ?_⟩ | refine ⟨.inr (.inr (loadK rfl (O.at (.tail _ (.head _))) rfl rfl)), ?_⟩ | refine ⟨.inr (.inr (loadK rfl (O.at (.tail _ (.tail _ (.head _)))) rfl rfl)), ?_⟩ | refine ⟨.inr (.inr (loadK rfl (O.at (.tail _ (.tail _ (.tail _ (.head _))))) rfl rfl)), ?_⟩ | refine ⟨.inl (Ext.refl _), ?_⟩ | refine ⟨.inr (by kernel_rfl), ?_⟩ | refine ⟨.inl (by kernel_rfl), ?_⟩); ((conv=>whnf); repeat ((first|refine RegS.stepH ?_|refine RegXS.stepH ?_);(conv=>whnf)))
                    obtain ⟨x68, hx68, hm⟩ := hm
                    obtain ⟨g69, rfl⟩ := addr_some ha49 hx68
                    refine indexK (s := 1) (j := v30) rfl rfl rfl rfl (by rw [List.length_map]; exact lt_of_get hx68) ?_; ((conv=>whnf); repeat ((first|refine RegS.stepH ?_|refine RegXS.stepH ?_);(conv=>whnf)))
                    refine ⟨_, loadK rfl (O.at (.tail _ (.head _))) rfl (cell_map (enc := n8) (s := 1) (k := 0) (fun _ => rfl) hx68 rfl), ?_⟩; ((conv=>whnf); repeat ((first|refine RegS.stepH ?_|refine RegXS.stepH ?_);(conv=>whnf)))
                    refine ⟨.inl rfl, ?_⟩; ((conv=>whnf); repeat ((first|refine RegS.stepH ?_|refine RegXS.stepH ?_);(conv=>whnf)))
                    refine CodeS.step ?_;(conv=>whnf)
                    refine ⟨_, rfl, fun hc => ?_, fun hc => ?_⟩
                    · replace hm := hm.1 hc
                      refine CodeS.step ?_;(conv=>whnf)
                      refine CodeS.joinWS hm (nn := 165) (σ := Bool × Unit) (fun s => s.1) (fun (v70, _) h => Own vars h0 [((some g2), .cells [((encL 4 encNode) r1.1.nodes), ((encL 1 Value.string) r1.1.names), ((encL 3 encMem) r1.1.mems), ((encL 1 i64) r1.1.outs)] false), ((some g69), .cells (flatC (v6.map n8)) true)] h ∧ True) (fun (v70, _) => [(7, (.pointer (some ⟨g2, 0, none⟩))), (9, (growV 1 (some g69) (v6.map n8))), (12, ((encL 1 i64) r20.1)), (16, (i64 v29)), (17, (i64 v30)), (155, (.bool v70))]) rfl (fun hm' => ?_) ?_
                      · replace hm := hm'
                        refine CodeS.step ?_; ((conv=>whnf); repeat ((first|refine RegS.stepH ?_|refine RegXS.stepH ?_);(conv=>whnf)))
                        refine lenM (s := 1) (enc := i64) (l := r20.1) rfl rfl ?_; ((conv=>whnf); repeat ((first|refine RegS.stepH ?_|refine RegXS.stepH ?_);(conv=>whnf)))
                        refine ⟨_, rfl, fun hc => ?_, fun hc => ?_⟩
                        · replace hm := hm.1 hc; ((conv=>whnf); repeat ((first|refine RegS.stepH ?_|refine RegXS.stepH ?_);(conv=>whnf)))
                          exact ⟨(true, ()), hm, ⟨(O.sel [0, 1] (by decide)), trivial⟩, VLe.refl _ _, VLe.refl _ _, VLe.refl _ _, VLe.refl _ _, VLe.refl _ _, VLe.refl _ _, trivial⟩
                        · replace hm := hm.2 hc; ((conv=>whnf); repeat ((first|refine RegS.stepH ?_|refine RegXS.stepH ?_);(conv=>whnf)))
                          obtain ⟨x72, hx72, hm⟩ := hm
                          refine flAtM (s := 1) (enc := i64) (j := v29) rfl rfl rfl rfl hx72 ?_; ((conv=>whnf); repeat ((first|refine RegS.stepH ?_|refine RegXS.stepH ?_);(conv=>whnf)))
                          refine ⟨_, (rfl : aread _ _ _ _ = some _), ?_⟩; ((conv=>whnf); repeat ((first|refine RegS.stepH ?_|refine RegXS.stepH ?_);(conv=>whnf)))
                          exact ⟨((neN x72 v30), ()), hm, ⟨(O.sel [0, 1] (by decide)), trivial⟩, VLe.refl _ _, VLe.refl _ _, VLe.refl _ _, VLe.refl _ _, VLe.refl _ _, VLe.refl _ _, trivial⟩
                      · clear hm; rintro ⟨v70, _⟩ base h hm ⟨O, _⟩
                        (conv=>whnf)
                        refine CodeS.step ?_;(conv=>whnf)
                        refine ⟨_, rfl, fun hc => ?_, fun hc => ?_⟩
                        · replace hm := hm.1 hc
                          refine CodeS.step ?_;(conv=>whnf)
                          refine CodeS.step ?_; ((conv=>whnf); repeat ((first|refine RegS.stepH ?_|refine RegXS.stepH ?_);(conv=>whnf)))
                          refine CodeS.step ?_;(conv=>whnf)
                          exact ⟨false, hm, O.ext, fun h2 F => VLe.refl _ _⟩
                        · replace hm := hm.2 hc
                          refine CodeS.step ?_;(conv=>whnf)
                          refine CodeS.step ?_; ((conv=>whnf); repeat ((first|refine RegS.stepH ?_|refine RegXS.stepH ?_);(conv=>whnf)))
                          refine ⟨_, addK (a := v29) (b := 1) rfl rfl hm.1, ?_⟩; ((conv=>whnf); repeat ((first|refine RegS.stepH ?_|refine RegXS.stepH ?_);(conv=>whnf)))
                          replace hm := hm.2
                          exact ⟨((v29 + 1), (some g69)), hm, ⟨someNone, O, trivial⟩, VLe.refl _ _, VLe.refl _ _, VLe.refl _ _, VLe.refl _ _, VLe.refl _ _, trivial⟩
                    · replace hm := hm.2 hc
                      refine CodeS.step ?_;(conv=>whnf)
                      exact ⟨(v29, (some g69)), hm, ⟨someNone, (O.sel [0, 1] (by decide)), trivial⟩, VLe.refl _ _, VLe.refl _ _, VLe.refl _ _, VLe.refl _ _, VLe.refl _ _, trivial⟩
            · clear hm; rintro ⟨v34, a33⟩ base h hm ⟨ha35, O, _⟩
              (conv=>whnf)
              refine CodeS.step ?_; ((conv=>whnf); repeat ((first|refine RegS.stepH ?_|refine RegXS.stepH ?_);(conv=>whnf)))
              refine ⟨_, addK (a := v30) (b := 1) rfl rfl hm.1, ?_⟩; ((conv=>whnf); repeat ((first|refine RegS.stepH ?_|refine RegXS.stepH ?_);(conv=>whnf)))
              replace hm := hm.2
              exact ⟨((v34, (v30 + 1)), a33), hm, ⟨ha35, O, trivial⟩, VLe.refl _ _, VLe.refl _ _, VLe.refl _ _, VLe.refl _ _, VLe.refl _ _, trivial⟩
          · replace hm := hm.2 hc
            refine CodeS.step ?_;(conv=>whnf)
            exact ⟨(v29, ()), hm, ⟨(O.sel [] (by decide)), trivial⟩, VLe.refl _ _, VLe.refl _ _, trivial⟩
        · clear hm; rintro ⟨v26, _⟩ base h hm ⟨O, _⟩
          (conv=>whnf)
          refine CodeS.step ?_;(conv=>whnf)
          refine CodeS.step ?_; ((conv=>whnf); repeat ((first|refine RegS.stepH ?_|refine RegXS.stepH ?_);(conv=>whnf)))
          refine lenM (s := 1) (enc := i64) (l := r20.1) rfl rfl ?_; ((conv=>whnf); repeat ((first|refine RegS.stepH ?_|refine RegXS.stepH ?_);(conv=>whnf)))
          refine ⟨_, rfl, fun hc => ?_, fun hc => ?_⟩
          · replace hm := hm.1 hc; ((conv=>whnf); repeat ((first|refine RegS.stepH ?_|refine RegXS.stepH ?_);(conv=>whnf)))
            obtain ⟨r73, hm, hcall⟩ := law24_lives_walk hm O.has
            refine ⟨_, _, hcall, ?_⟩; ((conv=>whnf); repeat ((first|refine RegS.stepH ?_|refine RegXS.stepH ?_);(conv=>whnf)))
            refine CodeS.step ?_;(conv=>whnf)
            exact ⟨r73, hm, O.ext, fun h2 F => VLe.refl _ _⟩
          · replace hm := hm.2 hc; ((conv=>whnf); repeat ((first|refine RegS.stepH ?_|refine RegXS.stepH ?_);(conv=>whnf)))
            refine CodeS.step ?_;(conv=>whnf)
            exact ⟨false, hm, O.ext, fun h2 F => VLe.refl _ _⟩
end Go.Proofs.YtedefohdeignpaaDoor
