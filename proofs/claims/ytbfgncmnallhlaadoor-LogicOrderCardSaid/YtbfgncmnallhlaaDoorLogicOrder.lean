/-
  Proved here: for every array of three values, 'probecardlaw01.LogicOrder' returns true, ends, panics nowhere, and its argument reads behind the call as it read before.
  Conditions: those of the given card alone ('Rows.LogicOrderCardSaid'): the variable logic.fanins holds what the row lists, which the card ties to the program's text; no other.
-/
import Derived.Test.YtbfgncmnallhlaaDoorDoor
import Derived.Test.YtbfgncmnallhlaaDoorCards
import Derived.Test.YtbfgncmnallhlaaDoorLogicOrderRun
namespace Go.Proofs.YtbfgncmnallhlaaDoor
open Go.Abs Go.ChangeShapes Go.RowKit Go.ChangeAt
set_option maxRecDepth 100000

theorem logicOrder_run (W : World) (base : Nat) (args : Array Value) (hsh : W.ShapedOpen Tryd.prog) (hsz : args.size = Tryd.f3.params.size)
    (hval : ∀ (j : Nat) t v, Tryd.f3.params[j]? = some t → args[j]? = some v → Value.okWide Tryd.prog W .any base t v) (hl : laidMetH Tryd.prog laid W) :
    Calls Tryd.prog 3 args W fun e W' => e = .returned (.bool true) ∧ Below W.heap.size W W' := by
  rw [Tryd.params3] at hsz hval
  obtain ⟨v, rfl⟩ : ∃ v, args = #[v] := by
    obtain ⟨l⟩ := args
    match l, hsz with
    | [v], _ => exact ⟨v, rfl⟩
  obtain ⟨cs, rfl, hn, hc⟩ := agg_ints (k := .u8) 3 [22, 22, 22] (by kernel_rfl) (by kernel_rfl) (by kernel_rfl) (by kernel_rfl) (by kernel_rfl) (hval 0 _ v rfl rfl)
  obtain ⟨a, ea, ha⟩ := hc 0 (by decide)
  obtain ⟨b, eb, hb⟩ := hc 1 (by decide)
  obtain ⟨c, ec, hcc⟩ := hc 2 (by decide)
  obtain rfl : cs = #[.int .u8 a, .int .u8 b, .int .u8 c] := by
    obtain ⟨l⟩ := cs
    match l, hn with
    | [x, y, z], _ => simp at ea eb ec; simp [ea, eb, ec]
  obtain ⟨h', hcall⟩ := runs (order_all a b c (has_u8 ha).1 (has_u8 hb).1 (has_u8 hcc).1)
  obtain ⟨l0, l1, hst⟩ := start hsh hl
  have H := hst [] [] rfl (by simp) (by simp) (by simp)
  exact run_of_call Tryd.func3 rfl hcall rfl H (by intro o ho; simp [vars] at ho; rcases ho with rfl | rfl <;> rfl) (ARel.plains_refl (by kernel_rfl))

theorem logicOrder_lifted (os : Os) (started : os.Started) (H : Type) (enc : TypeId × Value → H) :
    ReturnsInHanded {} Tryd.checked os 3 .any (fun w args => (Rows.logicOrderSpec.pre enc Tryd.prog Tryd.f3 [] false w args ∧ laidMetH Tryd.prog laid w) ∧ sizedMet enc Tryd.prog Tryd.f3 (OpenSpec.ofChange Rows.logicOrderSpec) false w args)
      (Rows.logicOrderSpec.post enc Tryd.prog Tryd.f3 false true false false) := by
  refine law_lift (C := Tryd.checked) (X := fun w _ => laidMetH Tryd.prog laid w) (fun _ _ _ hh h => h.of_heap hh) own started (by kernel_rfl) Tryd.func3
    (ChangeSpec.witness_shaped (enc := enc) (C := Tryd.checked) (os := os) (X := fun w _ => laidMetH Tryd.prog laid w) false (World.doorLaid Tryd.prog 400 os) #[.agg #[.int .u8 0, .int .u8 0, .int .u8 0]] 8 rfl (World.shaped_of_RefB (by kernel_rfl) (by kernel_rfl)) (by kernel_rfl) (by kernel_rfl) (by kernel_rfl) (door_met os _))
    laidOut rfl (fun ds hds => ?_) (by kernel_rfl) (tb := 4) (by kernel_rfl) Tryd.underlying4 logicOrder_run
  rw [Tryd.params3] at hds
  match ds, hds with
  | [d], _ => rfl

theorem logicOrder_holds : Rows.LogicOrderSaid :=
  OpenClaim.holds_of_wide 3 Tryd.f3 rfl rfl rfl rfl rfl rfl rfl ⟨rfl, rfl, rfl, rfl, rfl⟩ rfl rfl rfl rfl rfl (by kernel_rfl) Tryd.func3 (by kernel_rfl)
    (of_decide_eq_true (by kernel_rfl)) (by unfold Func.isWrapper; first | (rw [if_pos (by decide +kernel)]; kernel_rfl) | (rw [if_neg (by decide +kernel)]; exact ⟨rfl, rfl⟩))
    (fun os started H enc _ => logicOrder_lifted os started H enc)

theorem logicOrder_card : Rows.LogicOrderCardSaid :=
  Claim7.holds_tied_plain_at .later [] [.data] true (true, "eec8dd77d271f4d87febe67ded3a8ccba381ac9024ede6657da5db07626e1355") false
    logicOrder_holds (fun _ h => by cases h) (by kernel_rfl) (fun _ h => by cases h) logicOrder_row_tie rfl ⟨rfl, rfl⟩ (by kernel_rfl) rfl
    (fun f fn hf hfn => by
      obtain rfl : f = 3 := Option.some.inj ((show Tryd.prog.funcNamed "probecard/probecardlaw01.LogicOrder" = some 3 by kernel_rfl).symm.trans hf) |>.symm
      obtain rfl : fn = Tryd.f3 := (Option.some.inj (Tryd.func3.symm.trans hfn)).symm
      exact ⟨by kernel_rfl, fun j t ht => by
        rw [Tryd.params3] at ht
        have hm := Array.mem_of_getElem? ht
        have hall : ((#[23] : Array TypeId).all fun u => !Tryd.prog.wantsStandIn u) = true := by kernel_rfl
        exact (show Tryd.prog.wantsStandIn t = false by simpa using Array.all_eq_true_iff_forall_mem.1 hall t hm)⟩)
    (by kernel_rfl)
#print axioms logicOrder_card
end Go.Proofs.YtbfgncmnallhlaaDoor
