/-
  'apure' is sound: the model's operation, on the concrete values, yields what the abstract value stands for, in every world.
-/
import Derived.Test.YtbfgncmnallhlaaDoorAbsD
namespace Go.Abs

theorem fallback_sound {P : Program} {ι : Inj} {ρ ρ' : Operand → Value} {o : Oper} {v : Value} (hs : ∀ cs b, o.op ≠ .select cs b) (hρ : ∀ x ∈ o.op.operands, VRel ι (ρ x) (ρ' x)) (h : fallback P ρ o = some v) :
    ∃ v', (∀ w, (execOp ρ' o).run P w = .ok (.value v') w) ∧ VRel ι v v' := by
  unfold fallback at h
  split at h
  · rename_i hall
    have same : ∀ x ∈ o.op.operands, ρ x = ρ' x := fun x hx => ((hρ x hx).plain_eq ((Array.all_eq_true_iff_forall_mem.1 hall) x hx)).symm
    rw [execOp_congr o hs same] at h
    cases hq : pureOf P (execOp ρ' o) with
    | none => simp [hq] at h
    | some nx =>
      cases nx with
      | value u =>
        simp only [hq] at h
        split at h
        · rename_i hp
          cases h
          exact ⟨_, fun w => pureOf_run hq w, VRel.plain_refl hp⟩
        · cases h
      | _ => simp [hq] at h
  · cases h

theorem nilEq_in {P : Program} {ι : Inj} {d : TypeDesc} {t : TypeId} {x y x' y' : Value} {b : Bool} (hd : P.underlying t = some d) (hx : VRel ι x x') (hy : VRel ι y y') (h : nilEq d x y = some b) (n : Nat) (w : World) :
    (Op.equalIn (n + 1) t x' y').run P w = .ok b w := by
  cases d <;> first | (simp [nilEq] at h; done) | skip
  all_goals
    cases hx <;> first | (simp [nilEq] at h; done) | skip
  all_goals
    cases hy <;> first | (simp [nilEq] at h; done) | skip
  all_goals
    simp only [nilEq, Option.some.injEq] at h
    subst h
    simp [Op.equalIn, run_under hd]

theorem nilEq_guard {P : Program} {ι : Inj} {d : TypeDesc} {x y x' y' : Value} {b : Bool} (hx : VRel ι x x') (hy : VRel ι y y') (h : nilEq d x y = some b) (op : BinOp) (t : TypeId) (u z : Operand) (w : World) :
    (eqGuard op t u z x' y').run P w = .ok () w := by
  cases d <;> first | (simp [nilEq] at h; done) | skip
  all_goals
    cases hx <;> first | (simp [nilEq] at h; done) | skip
  all_goals
    cases hy <;> first | (simp [nilEq] at h; done) | skip
  all_goals
    unfold eqGuard
    simp

theorem nilEq_op {ι : Inj} {d : TypeDesc} {x y x' y' : Value} {b : Bool} (hx : VRel ι x x') (hy : VRel ι y y') (h : nilEq d x y = some b) (t : TypeId) :
    (binOp .eql t x' y' = do pure (.bool (← Op.equal t x' y'))) ∧ (binOp .neq t x' y' = do pure (.bool (!(← Op.equal t x' y')))) := by
  cases d <;> first | (simp [nilEq] at h; done) | skip
  all_goals
    cases hx <;> first | (simp [nilEq] at h; done) | skip
  all_goals
    cases hy <;> first | (simp [nilEq] at h; done) | skip
  all_goals exact ⟨rfl, rfl⟩

theorem nilEq_sound {P : Program} {ι : Inj} {d : TypeDesc} {t : TypeId} {x y x' y' : Value} {b : Bool} (hd : P.underlying t = some d) (hx : VRel ι x x') (hy : VRel ι y y') (h : nilEq d x y = some b) (u z : Operand) (w : World) :
    ((do eqGuard .eql t u z x' y'; binOp .eql t x' y') : Sem Value).run P w = .ok (.bool b) w ∧ ((do eqGuard .neq t u z x' y'; binOp .neq t x' y') : Sem Value).run P w = .ok (.bool !b) w := by
  have h1 := nilEq_in hd hx hy h 9999 w
  have h1' : (Op.equal t x' y').run P w = .ok b w := h1
  obtain ⟨h2, h3⟩ := nilEq_op hx hy h t
  rw [h2, h3]
  simp [nilEq_guard (P := P) hx hy h, h1']
end Go.Abs
