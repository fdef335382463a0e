/-
  F1, M1: parts of the proof.
-/
import Derived.Test.YtedefohdeignpaaDoorIo39
namespace Go.Proofs.YtedefohdeignpaaDoor
open Go.Abs
set_option maxRecDepth 100000
def fanout_all_wp (p0 : Circ) (K : (List (List Ln)) → Prop) : Prop :=
  24 * p0.nodes.length ≤ 2 ^ 48 ∧ p0.nodes.length < 2 ^ 63 ∧ joinW (α := (List (List Ln))) (fun k6 => loopW (S := ((List (List Ln)) × Nat)) (fun (v7, v9) nx11 => ((ltN v9 p0.nodes.length) = true → joinW (α := (List (List Ln))) (fun k15 => ∃ x16, p0.nodes[v9]? = some x16 ∧ loopW (S := ((List (List Ln)) × Nat)) (fun (v19, v21) nx23 => ((ltN v21 x16.ins.length) = true → joinW (α := (List (List Ln))) (fun k27 => ∃ x28, x16.ins[v21]? = some x28 ∧ ((ltN x28 0) = true → k27 v19) ∧ ((ltN x28 0) = false → ((!(!ltN x28 p0.nodes.length)) = true → x28 < p0.nodes.length ∧ ∃ x29, v19[x28]? = some x29 ∧ (x29.length + ([(⟨v9, v21⟩ : Ln)] : (List Ln)).length) * 16 ≤ 2 ^ 47 ∧ x28 < p0.nodes.length ∧ k27 (v19.set x28 (x29 ++ ([(⟨v9, v21⟩ : Ln)] : (List Ln))))) ∧ ((!(!ltN x28 p0.nodes.length)) = false → k27 v19))) (fun v24 => v21 + 1 < 2 ^ 63 ∧ nx23 (v24, (v21 + 1)))) ∧ ((ltN v21 x16.ins.length) = false → k15 v19)) (v7, 0)) (fun v12 => v9 + 1 < 2 ^ 63 ∧ nx11 (v12, (v9 + 1)))) ∧ ((ltN v9 p0.nodes.length) = false → k6 v7)) ((List.replicate p0.nodes.length ([] : List Ln)), 0)) (fun v3 => joinW (α := (List (List Ln))) (fun k40 => loopW (S := ((List (List Ln)) × Nat)) (fun (v41, v43) nx45 => ((ltN v43 p0.nodes.length) = true → v43 < p0.nodes.length ∧ ∃ x46, v41[v43]? = some x46 ∧ v43 < p0.nodes.length ∧ v43 + 1 < 2 ^ 63 ∧ nx45 ((v41.set v43 x46), (v43 + 1))) ∧ ((ltN v43 p0.nodes.length) = false → k40 v41)) (v3, 0)) (fun v37 => p0.nodes.length = v37.length ∧ K v37))
set_option maxHeartbeats 8000000 in
theorem fanout_all_walk {p0 : Circ} {K : (List (List Ln)) → Prop} (hm : fanout_all_wp p0 K) {h0 : Heap} (hB : HasB vars h0) : ∃ r, K r ∧ CallD Tryd.prog NG 41 ⟨[encCirc p0]⟩ h0 ((encL 1 (encL 2 encLn)) r) h0 := by
  unfold fanout_all_wp at hm
  refine fnW hM Tryd.func41 rfl (hP _ _ rfl Tryd.func41) (Nat.le_of_ble_eq_true rfl) hB (enc := (encL 1 (encL 2 encLn))) (fun r => pureL (fun _ => AllPure.cons (pureL (fun _ => pure_lnC _)) AllPure.nil)) fun O => ?_;(conv=>whnf)
  refine CodeS.step ?_;(conv=>whnf)
  refine CodeS.step ?_; ((conv=>whnf); repeat ((first|refine RegS.stepH ?_|refine RegXS.stepH ?_);(conv=>whnf)))
  refine NewG.frz rfl ?_; ((conv=>whnf); repeat ((first|refine RegS.stepH ?_|refine RegXS.stepH ?_);(conv=>whnf)))
  refine CodeS.step ?_;(conv=>whnf)
  refine CodeS.step ?_; ((conv=>whnf); repeat ((first|refine RegS.stepH ?_|refine RegXS.stepH ?_);(conv=>whnf)))
  refine ⟨_, (rfl : aread _ _ _ _ = some _), ?_⟩; ((conv=>whnf); repeat ((first|refine RegS.stepH ?_|refine RegXS.stepH ?_);(conv=>whnf)))
  refine lenM (s := 4) (enc := encNode) (l := p0.nodes) rfl rfl ?_; ((conv=>whnf); repeat ((first|refine RegS.stepH ?_|refine RegXS.stepH ?_);(conv=>whnf)))
  refine Own.makeRows (α := Ln) (b := 24) (n := p0.nodes.length) encLn 2 O rfl rfl rfl rfl rfl rfl hm.1 hm.2.1 fun g1 h O => ?_; ((conv=>whnf); repeat ((first|refine RegS.stepH ?_|refine RegXS.stepH ?_);(conv=>whnf)))
  replace hm := hm.2.2
  refine CodeS.step ?_;(conv=>whnf)
  refine CodeS.step ?_; ((conv=>whnf); repeat ((first|refine RegS.stepH ?_|refine RegXS.stepH ?_);(conv=>whnf)))
  refine ⟨_, (rfl : aread _ _ _ _ = some _), ?_⟩; ((conv=>whnf); repeat ((first|refine RegS.stepH ?_|refine RegXS.stepH ?_);(conv=>whnf)))
  refine fnG hM Tryd.func62 rfl (hP _ _ rfl Tryd.func62) (Nat.le_of_ble_eq_true rfl) ?_;(conv=>whnf)
  refine CodeS.step ?_;(conv=>whnf)
  refine CodeS.step ?_; ((conv=>whnf); repeat ((first|refine RegS.stepH ?_|refine RegXS.stepH ?_);(conv=>whnf)))
  refine NewG.frz rfl ?_; ((conv=>whnf); repeat ((first|refine RegS.stepH ?_|refine RegXS.stepH ?_);(conv=>whnf)))
  refine CodeS.step ?_;(conv=>whnf)
  refine CodeS.step ?_; ((conv=>whnf); repeat ((first|refine RegS.stepH ?_|refine RegXS.stepH ?_);(conv=>whnf)))
  refine makeFuncK rfl rfl ?_; ((conv=>whnf); repeat ((first|refine RegS.stepH ?_|refine RegXS.stepH ?_);(conv=>whnf)))
  refine CodeS.step ?_;(conv=>whnf)
  ((conv=>whnf); repeat ((first|refine RegS.stepH ?_|refine RegXS.stepH ?_);(conv=>whnf)))
  refine CodeS.joinWS hm (nn := 65) (σ := (List (List Ln)) × (List (Option Nat))) (fun s => s.1) (fun (v3, a4) h => RowsOk a4 v3 ∧ Own vars h0 ([((some g1), .cells (rowVals 2 encLn a4 v3) false)] ++ (rowSlots encLn a4 v3)) h ∧ True) (fun (v3, a4) => [(3, (.slice (some ⟨g1, 0, none⟩) p0.nodes.length p0.nodes.length))]) rfl (fun hm' => ?_) ?_
  · replace hm := hm'
    refine CodeS.step ?_;(conv=>whnf)
    refine CodeS.step ?_; ((conv=>whnf); repeat ((first|refine RegS.stepH ?_|refine RegXS.stepH ?_);(conv=>whnf)))
    refine ⟨_, (rfl : aread _ _ _ _ = some _), ?_⟩; ((conv=>whnf); repeat ((first|refine RegS.stepH ?_|refine RegXS.stepH ?_);(conv=>whnf)))
    refine lenM (s := 4) (enc := encNode) (l := p0.nodes) rfl rfl ?_; ((conv=>whnf); repeat ((first|refine RegS.stepH ?_|refine RegXS.stepH ?_);(conv=>whnf)))
    refine CodeS.step ?_;(conv=>whnf)
    refine CodeS.step ?_;(conv=>whnf)
    refine loopWK hM (by kernel_rfl) (nn := 65) (S := ((List (List Ln)) × Nat)) (σ := ((List (List Ln)) × Nat) × (List (Option Nat))) (fun s => s.1) (fun ((v7, v9), a8) h => RowsOk a8 v7 ∧ Own vars h0 ([((some g1), .cells (rowVals 2 encLn a8 v7) false)] ++ (rowSlots encLn a8 v7)) h ∧ True) (fun ((v7, v9), a8) => [(3, (.slice (some ⟨g1, 0, none⟩) p0.nodes.length p0.nodes.length)), (4, (.func (.func 77) ⟨[]⟩ ⟨[(FP (encCirc p0))]⟩)), (18, ((encL 4 encNode) p0.nodes)), (19, (i64 p0.nodes.length)), (20, (i64 v9))]) rfl (((List.replicate p0.nodes.length ([] : List Ln)), 0), (List.replicate p0.nodes.length none)) hm ⟨(RowsOk.start p0.nodes.length), O, trivial⟩ ⟨VLe.refl _ _, VLe.refl _ _, VLe.refl _ _, VLe.refl _ _, VLe.refl _ _, trivial⟩ ?_
    clear hm; rintro ⟨⟨v7, v9⟩, a8⟩ nx11 base h hm ⟨hr10, O, _⟩
    (conv=>whnf)
    refine CodeS.step ?_;(conv=>whnf)
    refine CodeS.step ?_; ((conv=>whnf); repeat ((first|refine RegS.stepH ?_|refine RegXS.stepH ?_);(conv=>whnf)))
    refine CodeS.step ?_;(conv=>whnf)
    refine CodeS.step ?_;(conv=>whnf)
    refine ⟨_, rfl, fun hc => ?_, fun hc => ?_⟩
    · replace hm := hm.1 hc
      refine CodeS.step ?_;(conv=>whnf)
      refine CodeS.joinWS hm (nn := 65) (σ := (List (List Ln)) × (List (Option Nat))) (fun s => s.1) (fun (v12, a13) h => RowsOk a13 v12 ∧ Own vars h0 ([((some g1), .cells (rowVals 2 encLn a13 v12) false)] ++ (rowSlots encLn a13 v12)) h ∧ True) (fun (v12, a13) => [(3, (.slice (some ⟨g1, 0, none⟩) p0.nodes.length p0.nodes.length)), (4, (.func (.func 77) ⟨[]⟩ ⟨[(FP (encCirc p0))]⟩)), (18, ((encL 4 encNode) p0.nodes)), (19, (i64 p0.nodes.length)), (20, (i64 v9))]) rfl (fun hm' => ?_) ?_
      · replace hm := hm'
        refine CodeS.step ?_;(conv=>whnf)
        refine CodeS.step ?_;(conv=>whnf)
        refine CodeS.step ?_; ((conv=>whnf); repeat ((first|refine RegS.stepH ?_|refine RegXS.stepH ?_);(conv=>whnf)))
        obtain ⟨x16, hx16, hm⟩ := hm
        refine flAtM (s := 4) (enc := encNode) (j := v9) rfl rfl rfl rfl hx16 ?_; ((conv=>whnf); repeat ((first|refine RegS.stepH ?_|refine RegXS.stepH ?_);(conv=>whnf)))
        refine ⟨_, (rfl : aread _ _ _ _ = some _), ?_⟩; ((conv=>whnf); repeat ((first|refine RegS.stepH ?_|refine RegXS.stepH ?_);(conv=>whnf)))
        (first | refine O.new (anew_alloc (l := [(n8 0), (.slice none 0 0), (i64 0), (i64 0)]) rfl rfl rfl) fun g17 h O => ?_ | refine O.newX (anew_alloc (l := [(n8 0), (.slice none 0 0), (i64 0), (i64 0)]) rfl rfl rfl) fun g17 h O => ?_); ((conv=>whnf); repeat ((first|refine RegS.stepH ?_|refine RegXS.stepH ?_);(conv=>whnf)))
        refine O.store (n := 4) (cs' := [(n8 x16.kind), ((encL 1 i64) x16.ins), (i64 x16.mem), (i64 x16.bit)]) (.head _) rfl rfl rfl rfl (Nat.le_of_ble_eq_true rfl) rfl rfl fun h O => ?_; ((conv=>whnf); repeat ((first|refine RegS.stepH ?_|refine RegXS.stepH ?_);(conv=>whnf)))
        refine CodeS.step ?_;(conv=>whnf)
        refine CodeS.step ?_; ((conv=>whnf); repeat ((first|refine RegS.stepH ?_|refine RegXS.stepH ?_);(conv=>whnf)))
        refine ⟨_, loadK rfl (O.at (.head _)) rfl rfl, ?_⟩; ((conv=>whnf); repeat ((first|refine RegS.stepH ?_|refine RegXS.stepH ?_);(conv=>whnf)))
        refine lenM (s := 1) (enc := i64) (l := x16.ins) rfl rfl ?_; ((conv=>whnf); repeat ((first|refine RegS.stepH ?_|refine RegXS.stepH ?_);(conv=>whnf)))
        refine CodeS.step ?_;(conv=>whnf)
        refine CodeS.step ?_;(conv=>whnf)
        refine loopWK hM (by kernel_rfl) (nn := 65) (S := ((List (List Ln)) × Nat)) (σ := ((List (List Ln)) × Nat) × (List (Option Nat))) (fun s => s.1) (fun ((v19, v21), a20) h => RowsOk a20 v19 ∧ Own vars h0 ([((some g1), .cells (rowVals 2 encLn a20 v19) false)] ++ (rowSlots encLn a20 v19)) h ∧ True) (fun ((v19, v21), a20) => [(3, (.slice (some ⟨g1, 0, none⟩) p0.nodes.length p0.nodes.length)), (4, (.func (.func 77) ⟨[]⟩ ⟨[(FP (encCirc p0))]⟩)), (5, (i64 v9)), (18, ((encL 4 encNode) p0.nodes)), (19, (i64 p0.nodes.length)), (20, (i64 v9)), (26, ((encL 1 i64) x16.ins)), (27, (i64 x16.ins.length)), (28, (i64 v21))]) rfl ((v7, 0), a8) hm ⟨hr10, (Own.selT [((some g17), .cells [(n8 x16.kind), ((encL 1 i64) x16.ins), (i64 x16.mem), (i64 x16.bit)] false), ((some g1), .cells (rowVals 2 encLn a8 v7) false)] (L := (rowSlots encLn a8 v7)) O [1] (by decide)), trivial⟩ ⟨VLe.refl _ _, VLe.refl _ _, VLe.refl _ _, VLe.refl _ _, VLe.refl _ _, VLe.refl _ _, VLe.refl _ _, VLe.refl _ _, VLe.refl _ _, trivial⟩ ?_
        clear hm; rintro ⟨⟨v19, v21⟩, a20⟩ nx23 base h hm ⟨hr22, O, _⟩
        (conv=>whnf)
        refine CodeS.step ?_;(conv=>whnf)
        refine CodeS.step ?_; ((conv=>whnf); repeat ((first|refine RegS.stepH ?_|refine RegXS.stepH ?_);(conv=>whnf)))
        refine CodeS.step ?_;(conv=>whnf)
        refine CodeS.step ?_;(conv=>whnf)
        refine ⟨_, rfl, fun hc => ?_, fun hc => ?_⟩
        · replace hm := hm.1 hc
          refine CodeS.step ?_;(conv=>whnf)
          refine CodeS.joinWS hm (nn := 65) (σ := (List (List Ln)) × (List (Option Nat))) (fun s => s.1) (fun (v24, a25) h => RowsOk a25 v24 ∧ Own vars h0 ([((some g1), .cells (rowVals 2 encLn a25 v24) false)] ++ (rowSlots encLn a25 v24)) h ∧ True) (fun (v24, a25) => [(3, (.slice (some ⟨g1, 0, none⟩) p0.nodes.length p0.nodes.length)), (4, (.func (.func 77) ⟨[]⟩ ⟨[(FP (encCirc p0))]⟩)), (5, (i64 v9)), (18, ((encL 4 encNode) p0.nodes)), (19, (i64 p0.nodes.length)), (20, (i64 v9)), (26, ((encL 1 i64) x16.ins)), (27, (i64 x16.ins.length)), (28, (i64 v21))]) rfl (fun hm' => ?_) ?_
          · replace hm := hm'
            refine CodeS.step ?_;(conv=>whnf)
            refine CodeS.step ?_;(conv=>whnf)
            refine CodeS.step ?_; ((conv=>whnf); repeat ((first|refine RegS.stepH ?_|refine RegXS.stepH ?_);(conv=>whnf)))
            obtain ⟨x28, hx28, hm⟩ := hm
            refine flAtM (s := 1) (enc := i64) (j := v21) rfl rfl rfl rfl hx28 ?_; ((conv=>whnf); repeat ((first|refine RegS.stepH ?_|refine RegXS.stepH ?_);(conv=>whnf)))
            refine ⟨_, (rfl : aread _ _ _ _ = some _), ?_⟩; ((conv=>whnf); repeat ((first|refine RegS.stepH ?_|refine RegXS.stepH ?_);(conv=>whnf)))
            refine CodeS.step ?_;(conv=>whnf)
            refine CodeS.step ?_; ((conv=>whnf); repeat ((first|refine RegS.stepH ?_|refine RegXS.stepH ?_);(conv=>whnf)))
            refine fnG hM Tryd.func77 rfl (hP _ _ rfl Tryd.func77) (Nat.le_of_ble_eq_true rfl) ?_;(conv=>whnf)
            refine CodeS.step ?_;(conv=>whnf)
            refine CodeS.step ?_; ((conv=>whnf); repeat ((first|refine RegS.stepH ?_|refine RegXS.stepH ?_);(conv=>whnf)))
            refine CodeS.step ?_;(conv=>whnf)
            refine CodeS.step ?_; ((conv=>whnf); repeat ((first|refine RegS.stepH ?_|refine RegXS.stepH ?_);(conv=>whnf)))
            refine ⟨_, rfl, fun hc => ?_, fun hc => ?_⟩
            · replace hm := hm.1 hc; ((conv=>whnf); repeat ((first|refine RegS.stepH ?_|refine RegXS.stepH ?_);(conv=>whnf)))
              refine CodeS.step ?_;(conv=>whnf)
              ((conv=>whnf); repeat ((first|refine RegS.stepH ?_|refine RegXS.stepH ?_);(conv=>whnf)))
              refine CodeS.step ?_;(conv=>whnf)
              refine ⟨false, rfl, (fun hc => nomatch hc), fun _ => ?_⟩
              refine CodeS.step ?_;(conv=>whnf)
              exact ⟨(v19, a20), hm, ⟨hr22, O, trivial⟩, VLe.refl _ _, VLe.refl _ _, VLe.refl _ _, VLe.refl _ _, VLe.refl _ _, VLe.refl _ _, VLe.refl _ _, VLe.refl _ _, VLe.refl _ _, trivial⟩
            · replace hm := hm.2 hc; ((conv=>whnf); repeat ((first|refine RegS.stepH ?_|refine RegXS.stepH ?_);(conv=>whnf)))
              refine ⟨_, (rfl : aread _ _ _ _ = some _), ?_⟩; ((conv=>whnf); repeat ((first|refine RegS.stepH ?_|refine RegXS.stepH ?_);(conv=>whnf)))
              refine lenM (s := 4) (enc := encNode) (l := p0.nodes) rfl rfl ?_; ((conv=>whnf); repeat ((first|refine RegS.stepH ?_|refine RegXS.stepH ?_);(conv=>whnf)))
              refine CodeS.step ?_;(conv=>whnf)
              ((conv=>whnf); repeat ((first|refine RegS.stepH ?_|refine RegXS.stepH ?_);(conv=>whnf)))
              refine CodeS.step ?_;(conv=>whnf)
              refine ⟨_, rfl, fun hc => ?_, fun hc => ?_⟩
              · replace hm := hm.1 hc
                refine CodeS.step ?_; ((conv=>whnf); repeat ((first|refine RegS.stepH ?_|refine RegXS.stepH ?_);(conv=>whnf)))
                refine indexK (s := 1) (j := x28) rfl rfl rfl rfl hm.1 ?_; ((conv=>whnf); repeat ((first|refine RegS.stepH ?_|refine RegXS.stepH ?_);(conv=>whnf)))
                replace hm := hm.2
                obtain ⟨x29, hx29, hm⟩ := hm
                obtain ⟨a30, hA32, ha31, O⟩ := Own.focus (S := [((some g1), .cells (rowVals 2 encLn a20 v19) false)]) hr22 O hx29
                refine ⟨_, rowLoad (O.at (.tail _ (.head _))) hA32 hx29 rfl rfl, ?_⟩; ((conv=>whnf); repeat ((first|refine RegS.stepH ?_|refine RegXS.stepH ?_);(conv=>whnf)))
                refine NewG.frz rfl ?_; ((conv=>whnf); repeat ((first|refine RegS.stepH ?_|refine RegXS.stepH ?_);(conv=>whnf)))
                refine O.appendL (enc := encLn) (l := x29) (new := ([(⟨v9, v21⟩ : Ln)] : (List Ln))) (s := 2) (b := 16) (.head _) ha31.1 rfl rfl rfl rfl rfl rfl rfl rfl (YOk.fl rfl) (fun _ => rfl) (fun _ => rfl) (by decide) hm.1 fun a34 h ha35 O => ?_; ((conv=>whnf); repeat ((first|refine RegS.stepH ?_|refine RegXS.stepH ?_);(conv=>whnf)))
                replace hm := hm.2
                refine indexK (s := 1) (j := x28) rfl rfl rfl rfl hm.1 ?_; ((conv=>whnf); repeat ((first|refine RegS.stepH ?_|refine RegXS.stepH ?_);(conv=>whnf)))
                replace hm := hm.2
                refine O.rowStore (s := 2) (enc := encLn) (j := x28) (v := (growV 2 a34 ((x29 ++ ([(⟨v9, v21⟩ : Ln)] : (List Ln))).map encLn))) (.tail _ (.head _)) hr22 hx29 rfl rfl rfl rfl rfl fun h O => ?_; ((conv=>whnf); repeat ((first|refine RegS.stepH ?_|refine RegXS.stepH ?_);(conv=>whnf)))
                rw [← rowVals_set] at O
                have hr36 : RowsOk (a20.set x28 a34) (v19.set x28 (x29 ++ ([(⟨v9, v21⟩ : Ln)] : (List Ln)))) := RowsOk.set hr22 ⟨ha35, fun e => absurd e (by simp)⟩
                replace O := Own.unfocus (S := [(some g1, .cells (rowVals 2 encLn (a20.set x28 a34) (v19.set x28 (x29 ++ ([(⟨v9, v21⟩ : Ln)] : (List Ln))))) false)]) O hx29 hr22
                exact ⟨((v19.set x28 (x29 ++ ([(⟨v9, v21⟩ : Ln)] : (List Ln)))), (a20.set x28 a34)), hm, ⟨hr36, O, trivial⟩, VLe.refl _ _, VLe.refl _ _, VLe.refl _ _, VLe.refl _ _, VLe.refl _ _, VLe.refl _ _, VLe.refl _ _, VLe.refl _ _, VLe.refl _ _, trivial⟩
              · replace hm := hm.2 hc
                refine CodeS.step ?_;(conv=>whnf)
                exact ⟨(v19, a20), hm, ⟨hr22, O, trivial⟩, VLe.refl _ _, VLe.refl _ _, VLe.refl _ _, VLe.refl _ _, VLe.refl _ _, VLe.refl _ _, VLe.refl _ _, VLe.refl _ _, VLe.refl _ _, trivial⟩
          · clear hm; rintro ⟨v24, a25⟩ base h hm ⟨hr26, O, _⟩
            (conv=>whnf)
            refine CodeS.step ?_; ((conv=>whnf); repeat ((first|refine RegS.stepH ?_|refine RegXS.stepH ?_);(conv=>whnf)))
            refine ⟨_, addK (a := v21) (b := 1) rfl rfl hm.1, ?_⟩; ((conv=>whnf); repeat ((first|refine RegS.stepH ?_|refine RegXS.stepH ?_);(conv=>whnf)))
            replace hm := hm.2
            exact ⟨((v24, (v21 + 1)), a25), hm, ⟨hr26, O, trivial⟩, VLe.refl _ _, VLe.refl _ _, VLe.refl _ _, VLe.refl _ _, VLe.refl _ _, VLe.refl _ _, VLe.refl _ _, VLe.refl _ _, VLe.refl _ _, trivial⟩
        · replace hm := hm.2 hc
          refine CodeS.step ?_;(conv=>whnf)
          exact ⟨(v19, a20), hm, ⟨hr22, O, trivial⟩, VLe.refl _ _, VLe.refl _ _, VLe.refl _ _, VLe.refl _ _, VLe.refl _ _, trivial⟩
      · clear hm; rintro ⟨v12, a13⟩ base h hm ⟨hr14, O, _⟩
        (conv=>whnf)
        refine CodeS.step ?_; ((conv=>whnf); repeat ((first|refine RegS.stepH ?_|refine RegXS.stepH ?_);(conv=>whnf)))
        refine ⟨_, addK (a := v9) (b := 1) rfl rfl hm.1, ?_⟩; ((conv=>whnf); repeat ((first|refine RegS.stepH ?_|refine RegXS.stepH ?_);(conv=>whnf)))
        replace hm := hm.2
        exact ⟨((v12, (v9 + 1)), a13), hm, ⟨hr14, O, trivial⟩, VLe.refl _ _, VLe.refl _ _, VLe.refl _ _, VLe.refl _ _, VLe.refl _ _, trivial⟩
    · replace hm := hm.2 hc
      refine CodeS.step ?_;(conv=>whnf)
      exact ⟨(v7, a8), hm, ⟨hr10, O, trivial⟩, VLe.refl _ _, trivial⟩
  · clear hm; rintro ⟨v3, a4⟩ base h hm ⟨hr5, O, _⟩
    (conv=>whnf)
    refine CodeS.joinWS hm (nn := 65) (σ := (List (List Ln)) × (List (Option Nat))) (fun s => s.1) (fun (v37, a38) h => RowsOk a38 v37 ∧ Own vars h0 ([((some g1), .cells (rowVals 2 encLn a38 v37) false)] ++ (rowSlots encLn a38 v37)) h ∧ True) (fun (v37, a38) => [(3, (.slice (some ⟨g1, 0, none⟩) p0.nodes.length p0.nodes.length))]) rfl (fun hm' => ?_) ?_
    · replace hm := hm'
      refine CodeS.step ?_;(conv=>whnf)
      refine CodeS.step ?_; ((conv=>whnf); repeat ((first|refine RegS.stepH ?_|refine RegXS.stepH ?_);(conv=>whnf)))
      refine lenS (n := p0.nodes.length) rfl rfl ?_; ((conv=>whnf); repeat ((first|refine RegS.stepH ?_|refine RegXS.stepH ?_);(conv=>whnf)))
      refine CodeS.step ?_;(conv=>whnf)
      refine CodeS.step ?_;(conv=>whnf)
      refine loopWK hM (by kernel_rfl) (nn := 65) (S := ((List (List Ln)) × Nat)) (σ := ((List (List Ln)) × Nat) × (List (Option Nat))) (fun s => s.1) (fun ((v41, v43), a42) h => RowsOk a42 v41 ∧ Own vars h0 ([((some g1), .cells (rowVals 2 encLn a42 v41) false)] ++ (rowSlots encLn a42 v41)) h ∧ True) (fun ((v41, v43), a42) => [(3, (.slice (some ⟨g1, 0, none⟩) p0.nodes.length p0.nodes.length)), (51, (.slice (some ⟨g1, 0, none⟩) p0.nodes.length p0.nodes.length)), (52, (i64 p0.nodes.length)), (53, (i64 v43))]) rfl ((v3, 0), a4) hm ⟨hr5, O, trivial⟩ ⟨VLe.refl _ _, VLe.refl _ _, VLe.refl _ _, VLe.refl _ _, trivial⟩ ?_
      clear hm; rintro ⟨⟨v41, v43⟩, a42⟩ nx45 base h hm ⟨hr44, O, _⟩
      (conv=>whnf)
      refine CodeS.step ?_;(conv=>whnf)
      refine CodeS.step ?_; ((conv=>whnf); repeat ((first|refine RegS.stepH ?_|refine RegXS.stepH ?_);(conv=>whnf)))
      refine CodeS.step ?_;(conv=>whnf)
      refine CodeS.step ?_;(conv=>whnf)
      refine ⟨_, rfl, fun hc => ?_, fun hc => ?_⟩
      · replace hm := hm.1 hc
        refine CodeS.step ?_;(conv=>whnf)
        refine CodeS.step ?_;(conv=>whnf)
        refine CodeS.step ?_;(conv=>whnf)
        refine CodeS.step ?_;(conv=>whnf)
        refine CodeS.step ?_; ((conv=>whnf); repeat ((first|refine RegS.stepH ?_|refine RegXS.stepH ?_);(conv=>whnf)))
        refine indexK (s := 1) (j := v43) rfl rfl rfl rfl hm.1 ?_; ((conv=>whnf); repeat ((first|refine RegS.stepH ?_|refine RegXS.stepH ?_);(conv=>whnf)))
        replace hm := hm.2
        obtain ⟨x46, hx46, hm⟩ := hm
        obtain ⟨a47, hA49, ha48, O⟩ := Own.focus (S := [((some g1), .cells (rowVals 2 encLn a42 v41) false)]) hr44 O hx46
        refine ⟨_, rowLoad (O.at (.tail _ (.head _))) hA49 hx46 rfl rfl, ?_⟩; ((conv=>whnf); repeat ((first|refine RegS.stepH ?_|refine RegXS.stepH ?_);(conv=>whnf)))
        refine CodeS.step ?_; ((conv=>whnf); repeat ((first|refine RegS.stepH ?_|refine RegXS.stepH ?_);(conv=>whnf)))
        refine fnG hM Tryd.func63 rfl (hP _ _ rfl Tryd.func63) (Nat.le_of_ble_eq_true rfl) ?_;(conv=>whnf)
        refine CodeS.step ?_;(conv=>whnf)
        refine CodeS.step ?_; ((conv=>whnf); repeat ((first|refine RegS.stepH ?_|refine RegXS.stepH ?_);(conv=>whnf)))
        refine CodeS.step ?_;(conv=>whnf)
        refine CodeS.step ?_; ((conv=>whnf); repeat ((first|refine RegS.stepH ?_|refine RegXS.stepH ?_);(conv=>whnf)))
        refine lenG (enc := encLn) (l := x46) rfl rfl ?_; ((conv=>whnf); repeat ((first|refine RegS.stepH ?_|refine RegXS.stepH ?_);(conv=>whnf)))
        refine lenG (enc := encLn) (l := x46) rfl rfl ?_; ((conv=>whnf); repeat ((first|refine RegS.stepH ?_|refine RegXS.stepH ?_);(conv=>whnf)))
        refine clipK (s := 2) (enc := encLn) (l := x46) (n := x46.length) (m := x46.length) rfl rfl rfl rfl rfl rfl rfl ?_; ((conv=>whnf); repeat ((first|refine RegS.stepH ?_|refine RegXS.stepH ?_);(conv=>whnf)))
        refine CodeS.step ?_;(conv=>whnf)
        ((conv=>whnf); repeat ((first|refine RegS.stepH ?_|refine RegXS.stepH ?_);(conv=>whnf)))
        refine indexK (s := 1) (j := v43) rfl rfl rfl rfl hm.1 ?_; ((conv=>whnf); repeat ((first|refine RegS.stepH ?_|refine RegXS.stepH ?_);(conv=>whnf)))
        replace hm := hm.2
        refine O.rowStore (s := 2) (enc := encLn) (j := v43) (v := (clipV a47 (x46.map encLn))) (.tail _ (.head _)) hr44 hx46 rfl rfl rfl rfl rfl fun h O => ?_; ((conv=>whnf); repeat ((first|refine RegS.stepH ?_|refine RegXS.stepH ?_);(conv=>whnf)))
        refine CodeS.ghostLe (cs' := (rowVals 2 encLn a42 v41).set v43 (growV 2 a47 (x46.map encLn))) O (.tail _ (.head _)) (t2 := 3) rfl rfl (LLe.set (O.clipGrow (.head _) (fun _ => rfl) ha48)) fun h O => ?_
        rw [← rowVals_set] at O
        have hr51 : RowsOk (a42.set v43 a47) (v41.set v43 x46) := RowsOk.set hr44 ha48
        replace O := Own.unfocus (S := [(some g1, .cells (rowVals 2 encLn (a42.set v43 a47) (v41.set v43 x46)) false)]) O hx46 hr44
        refine CodeS.step ?_; ((conv=>whnf); repeat ((first|refine RegS.stepH ?_|refine RegXS.stepH ?_);(conv=>whnf)))
        refine ⟨_, addK (a := v43) (b := 1) rfl rfl hm.1, ?_⟩; ((conv=>whnf); repeat ((first|refine RegS.stepH ?_|refine RegXS.stepH ?_);(conv=>whnf)))
        replace hm := hm.2
        exact ⟨(((v41.set v43 x46), (v43 + 1)), (a42.set v43 a47)), hm, ⟨hr51, O, trivial⟩, VLe.refl _ _, VLe.refl _ _, VLe.refl _ _, VLe.refl _ _, trivial⟩
      · replace hm := hm.2 hc
        refine CodeS.step ?_;(conv=>whnf)
        exact ⟨(v41, a42), hm, ⟨hr44, O, trivial⟩, VLe.refl _ _, trivial⟩
    · clear hm; rintro ⟨v37, a38⟩ base h hm ⟨hr39, O, _⟩
      (conv=>whnf)
      refine CodeS.step ?_;(conv=>whnf)
      refine CodeS.step ?_; ((conv=>whnf); repeat ((first|refine RegS.stepH ?_|refine RegXS.stepH ?_);(conv=>whnf)))
      refine CodeS.step ?_;(conv=>whnf)
      obtain ⟨hn52, hm⟩ := hm
      exact ⟨v37, hm, O.ext, fun h2 F => Own.rowsFL (L := [((some g1), .cells (rowVals 2 encLn a38 v37) false)]) O F (Nat.le_refl _) (.head _) hr39 (fun _ => rfl) hn52⟩
end Go.Proofs.YtedefohdeignpaaDoor

namespace Go.Proofs.YtedefohdeignpaaDoor
open Go.Abs
set_option maxRecDepth 100000
def names_all_wp (p0 : Circ) (K : Nat → Prop) : Prop :=
  joinW (α := Unit) (fun k3 => loopW (S := ((List (ByteArray × Bool)) × Nat)) (fun (v4, v5) nx6 => ((ltN v5 p0.names.length) = true → ∃ x7, p0.names[v5]? = some x7 ∧ joinW (α := Bool) (fun k9 => netlists_IsName_wp x7 (fun r10 => ((!r10) = true → k9 true) ∧ ((!r10) = false → k9 ((mget v4 x7).getD false)))) (fun v8 => (v8 = true → K 5) ∧ (v8 = false → v5 + 1 < 2 ^ 63 ∧ nx6 ((mset v4 x7 true), (v5 + 1))))) ∧ ((ltN v5 p0.names.length) = false → k3 ())) (([] : List (ByteArray × Bool)), 0)) (fun _ => K 0)
set_option maxHeartbeats 8000000 in
theorem names_all_walk {p0 : Circ} {K : Nat → Prop} (hm : names_all_wp p0 K) {h0 : Heap} (hB : HasB vars h0) : ∃ r, K r ∧ CallD Tryd.prog NG 74 ⟨[encCirc p0]⟩ h0 (i64 r) h0 := by
  unfold names_all_wp at hm
  refine fnW hM Tryd.func74 rfl (hP _ _ rfl Tryd.func74) (Nat.le_of_ble_eq_true rfl) hB (enc := i64) (fun r => PureV.flat rfl) fun O => ?_;(conv=>whnf)
  refine CodeS.step ?_;(conv=>whnf)
  refine CodeS.step ?_; ((conv=>whnf); repeat ((first|refine RegS.stepH ?_|refine RegXS.stepH ?_);(conv=>whnf)))
  refine NewG.frz rfl ?_; ((conv=>whnf); repeat ((first|refine RegS.stepH ?_|refine RegXS.stepH ?_);(conv=>whnf)))
  refine CodeS.step ?_;(conv=>whnf)
  refine CodeS.step ?_; ((conv=>whnf); repeat ((first|refine RegS.stepH ?_|refine RegXS.stepH ?_);(conv=>whnf)))
  (first | refine O.new ((rfl : anew _ _ _ = some (.map (encM Value.string Value.bool ([] : List (ByteArray × Bool))), fun g => .map (some g)))) fun g1 h O => ?_ | refine O.newX ((rfl : anew _ _ _ = some (.map (encM Value.string Value.bool ([] : List (ByteArray × Bool))), fun g => .map (some g)))) fun g1 h O => ?_); ((conv=>whnf); repeat ((first|refine RegS.stepH ?_|refine RegXS.stepH ?_);(conv=>whnf)))
  refine CodeS.joinWS hm (nn := 25) (σ := Unit × Unit) (fun s => s.1) (fun (_, _) h => Own vars h0 [] h ∧ True) (fun (_, _) => []) rfl (fun hm' => ?_) ?_
  · replace hm := hm'
    refine CodeS.step ?_;(conv=>whnf)
    refine CodeS.step ?_; ((conv=>whnf); repeat ((first|refine RegS.stepH ?_|refine RegXS.stepH ?_);(conv=>whnf)))
    refine ⟨_, (rfl : aread _ _ _ _ = some _), ?_⟩; ((conv=>whnf); repeat ((first|refine RegS.stepH ?_|refine RegXS.stepH ?_);(conv=>whnf)))
    refine lenM (s := 1) (enc := Value.string) (l := p0.names) rfl rfl ?_; ((conv=>whnf); repeat ((first|refine RegS.stepH ?_|refine RegXS.stepH ?_);(conv=>whnf)))
    refine CodeS.step ?_;(conv=>whnf)
    refine CodeS.step ?_;(conv=>whnf)
    refine loopWK hM (by kernel_rfl) (nn := 25) (S := ((List (ByteArray × Bool)) × Nat)) (σ := ((List (ByteArray × Bool)) × Nat) × Unit) (fun s => s.1) (fun ((v4, v5), _) h => Own vars h0 [((some g1), .map (encM Value.string Value.bool v4))] h ∧ True) (fun ((v4, v5), _) => [(3, (.map (some g1))), (8, ((encL 1 Value.string) p0.names)), (9, (i64 p0.names.length)), (10, (i64 v5))]) rfl ((([] : List (ByteArray × Bool)), 0), ()) hm ⟨O, trivial⟩ ⟨VLe.refl _ _, VLe.refl _ _, VLe.refl _ _, VLe.refl _ _, trivial⟩ ?_
    clear hm; rintro ⟨⟨v4, v5⟩, _⟩ nx6 base h hm ⟨O, _⟩
    (conv=>whnf)
    refine CodeS.step ?_;(conv=>whnf)
    refine CodeS.step ?_; ((conv=>whnf); repeat ((first|refine RegS.stepH ?_|refine RegXS.stepH ?_);(conv=>whnf)))
    refine CodeS.step ?_;(conv=>whnf)
    refine CodeS.step ?_;(conv=>whnf)
    refine ⟨_, rfl, fun hc => ?_, fun hc => ?_⟩
    · replace hm := hm.1 hc
      refine CodeS.step ?_;(conv=>whnf)
      refine CodeS.step ?_;(conv=>whnf)
      refine CodeS.step ?_;(conv=>whnf)
      refine CodeS.step ?_;(conv=>whnf)
      refine CodeS.step ?_; ((conv=>whnf); repeat ((first|refine RegS.stepH ?_|refine RegXS.stepH ?_);(conv=>whnf)))
      obtain ⟨x7, hx7, hm⟩ := hm
      refine flAtM (s := 1) (enc := Value.string) (j := v5) rfl rfl rfl rfl hx7 ?_; ((conv=>whnf); repeat ((first|refine RegS.stepH ?_|refine RegXS.stepH ?_);(conv=>whnf)))
      refine ⟨_, (rfl : aread _ _ _ _ = some _), ?_⟩; ((conv=>whnf); repeat ((first|refine RegS.stepH ?_|refine RegXS.stepH ?_);(conv=>whnf)))
      refine CodeS.step ?_;(conv=>whnf)
      refine CodeS.joinWS hm (nn := 25) (σ := Bool × Unit) (fun s => s.1) (fun (v8, _) h => Own vars h0 [((some g1), .map (encM Value.string Value.bool v4))] h ∧ True) (fun (v8, _) => [(3, (.map (some g1))), (5, (.string x7)), (8, ((encL 1 Value.string) p0.names)), (9, (i64 p0.names.length)), (10, (i64 v5)), (21, (.bool v8))]) rfl (fun hm' => ?_) ?_
      · replace hm := hm'
        refine CodeS.step ?_; ((conv=>whnf); repeat ((first|refine RegS.stepH ?_|refine RegXS.stepH ?_);(conv=>whnf)))
        obtain ⟨r10, hm, hcall⟩ := netlists_IsName_walk hm O.has
        refine ⟨_, _, hcall, ?_⟩; ((conv=>whnf); repeat ((first|refine RegS.stepH ?_|refine RegXS.stepH ?_);(conv=>whnf)))
        refine ⟨_, rfl, fun hc => ?_, fun hc => ?_⟩
        · replace hm := hm.1 hc; ((conv=>whnf); repeat ((first|refine RegS.stepH ?_|refine RegXS.stepH ?_);(conv=>whnf)))
          exact ⟨(true, ()), hm, ⟨O, trivial⟩, VLe.refl _ _, VLe.refl _ _, VLe.refl _ _, VLe.refl _ _, VLe.refl _ _, VLe.refl _ _, trivial⟩
        · replace hm := hm.2 hc; ((conv=>whnf); repeat ((first|refine RegS.stepH ?_|refine RegXS.stepH ?_);(conv=>whnf)))
          refine ⟨_, lookupK (ek := Value.string) (ev := Value.bool) (m := v4) (k := x7) (z := false) rfl rfl rfl rfl (by kernel_rfl) sameStr (O.at (.head _)) rfl rfl, ?_⟩; ((conv=>whnf); repeat ((first|refine RegS.stepH ?_|refine RegXS.stepH ?_);(conv=>whnf)))
          exact ⟨(((mget v4 x7).getD false), ()), hm, ⟨O, trivial⟩, VLe.refl _ _, VLe.refl _ _, VLe.refl _ _, VLe.refl _ _, VLe.refl _ _, VLe.refl _ _, trivial⟩
      · clear hm; rintro ⟨v8, _⟩ base h hm ⟨O, _⟩
        (conv=>whnf)
        refine CodeS.step ?_;(conv=>whnf)
        refine ⟨_, rfl, fun hc => ?_, fun hc => ?_⟩
        · replace hm := hm.1 hc
          refine CodeS.step ?_;(conv=>whnf)
          refine CodeS.step ?_; ((conv=>whnf); repeat ((first|refine RegS.stepH ?_|refine RegXS.stepH ?_);(conv=>whnf)))
          refine CodeS.step ?_;(conv=>whnf)
          exact ⟨5, hm, O.ext, fun h2 F => VLe.refl _ _⟩
        · replace hm := hm.2 hc
          refine CodeS.step ?_;(conv=>whnf)
          refine CodeS.step ?_; ((conv=>whnf); repeat ((first|refine RegS.stepH ?_|refine RegXS.stepH ?_);(conv=>whnf)))
          refine O.mapSet (ek := Value.string) (ev := Value.bool) (m := v4) (k := x7) (v := true) (.head _) rfl rfl rfl sameStr rfl rfl rfl fun h O => ?_; ((conv=>whnf); repeat ((first|refine RegS.stepH ?_|refine RegXS.stepH ?_);(conv=>whnf)))
          refine CodeS.step ?_; ((conv=>whnf); repeat ((first|refine RegS.stepH ?_|refine RegXS.stepH ?_);(conv=>whnf)))
          refine ⟨_, addK (a := v5) (b := 1) rfl rfl hm.1, ?_⟩; ((conv=>whnf); repeat ((first|refine RegS.stepH ?_|refine RegXS.stepH ?_);(conv=>whnf)))
          replace hm := hm.2
          exact ⟨(((mset v4 x7 true), (v5 + 1)), ()), hm, ⟨O, trivial⟩, VLe.refl _ _, VLe.refl _ _, VLe.refl _ _, VLe.refl _ _, trivial⟩
    · replace hm := hm.2 hc
      refine CodeS.step ?_;(conv=>whnf)
      exact ⟨((), ()), hm, ⟨(O.sel [] (by decide)), trivial⟩, trivial⟩
  · clear hm; rintro ⟨_, _⟩ base h hm ⟨O, _⟩
    (conv=>whnf)
    refine CodeS.step ?_;(conv=>whnf)
    refine CodeS.step ?_; ((conv=>whnf); repeat ((first|refine RegS.stepH ?_|refine RegXS.stepH ?_);(conv=>whnf)))
    refine CodeS.step ?_;(conv=>whnf)
    exact ⟨0, hm, O.ext, fun h2 F => VLe.refl _ _⟩
end Go.Proofs.YtedefohdeignpaaDoor
