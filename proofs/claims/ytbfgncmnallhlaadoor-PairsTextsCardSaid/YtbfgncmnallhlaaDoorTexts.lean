/-
  Contracts of the texts of values and pairs.
-/
import Derived.Test.YtbfgncmnallhlaaDoorArgs
import Derived.Test.YtbfgncmnallhlaaDoorAbsZ
namespace Go.Proofs.YtbfgncmnallhlaaDoor
open Go.Abs
set_option maxRecDepth 100000

/-- The character of a value. -/
def chI (c : Int) : Int := if c = 0 then 48 else if c = 1 then 49 else if c = 2 then 88 else 90
def ch (c : Int) : UInt8 := UInt8.ofNat (chI c).toNat

theorem charRun0 : pureOf Tryd.prog (do pure (Next.value (← Instr.index 9 (.string ⟨#[48, 49, 88, 90]⟩) (u8 0)))) = some (.value (u8 (chI 0))) := by kernel_rfl
theorem charRun1 : pureOf Tryd.prog (do pure (Next.value (← Instr.index 9 (.string ⟨#[48, 49, 88, 90]⟩) (u8 1)))) = some (.value (u8 (chI 1))) := by kernel_rfl
theorem charRun2 : pureOf Tryd.prog (do pure (Next.value (← Instr.index 9 (.string ⟨#[48, 49, 88, 90]⟩) (u8 2)))) = some (.value (u8 (chI 2))) := by kernel_rfl
theorem charRun3 : pureOf Tryd.prog (do pure (Next.value (← Instr.index 9 (.string ⟨#[48, 49, 88, 90]⟩) (u8 3)))) = some (.value (u8 (chI 3))) := by kernel_rfl

section
variable {ρ : Operand → Value} {d : Option Tmp} {ty : TypeId} {pos : String} {af : Array Edge} {gd : Option (Nat × Bool)}
theorem charK {x i : Operand} {c : Int} (hc : 0 ≤ c ∧ c ≤ 3) (hx : ρ x = .string ⟨#[48, 49, 88, 90]⟩) (hi : ρ i = u8 c) :
    apure Tryd.prog ρ { dst := d, op := .index 9 x i, type := ty, pos := pos, after := af, guard := gd } = some (u8 (chI c)) := by
  have hp : (Op.index 9 x i).operands.all (fun x => plain (ρ x)) = true := by simp [Op.operands, hx, hi, u8, plain, plain0]
  have hu : Tryd.prog.underlying 9 = some .string := Tryd.underlying9
  have this : pureOf Tryd.prog (execOp ρ { dst := d, op := .index 9 x i, type := ty, pos := pos, after := af, guard := gd }) = some (.value (u8 (chI c))) := by
    have hex : ∀ v w : Value, ρ x = v → ρ i = w → execOp ρ { dst := d, op := .index 9 x i, type := ty, pos := pos, after := af, guard := gd } = (do pure (.value (← Instr.index 9 v w))) := fun v w e1 e2 => by rw [← e1, ← e2]; rfl
    rw [hex _ _ hx hi]
    have : c = 0 ∨ c = 1 ∨ c = 2 ∨ c = 3 := by omega
    rcases this with rfl | rfl | rfl | rfl
    · exact charRun0
    · exact charRun1
    · exact charRun2
    · exact charRun3
  unfold apure
  simp only [hu]
  unfold fallback
  rw [if_pos hp, this]
  rfl
end

variable {h : Heap}

def chars (l : List Int) : List Int := l.map fun c => chI (cleanL c)

theorem zeroByte : zeroOf Tryd.prog 5 = some (u8 0) := by kernel_rfl

theorem ltext_ok {a : Option Addr} {n cap : Nat} {l : List Int} (hs : Sl h 1 (.slice a n cap) (vals l)) (hl : ∀ x ∈ l, 0 ≤ x) (hn : l.length < 2 ^ 40) : CallD Tryd.prog NG 21 #[.slice a n cap] h (.string (strOfNums (chars l))) h := by
  obtain rfl := sl_len hs
  refine fnP hM Tryd.func21 rfl (hP _ _ rfl Tryd.func21) (Nat.le_of_ble_eq_true rfl) (by kernel_rfl) ?_; ((conv => whnf); repeat ((first | refine CodeS.step ?_ | refine RegS.step ?_ | refine RegXS.step ?_); (conv => whnf)))
  refine ⟨_, _, makeK (b := 1) rfl rfl rfl rfl rfl rfl rfl rfl (by omega) (by omega), fun h1 n1 => ?_⟩; ((conv => whnf); repeat ((first | refine CodeS.step ?_ | refine RegS.step ?_ | refine RegXS.step ?_); (conv => whnf)))
  refine loopG (σ := Nat) (nn := 25) hM (by kernel_rfl) (fun i h2 => i ≤ l.length ∧ Ext h h2 ∧ h2.get h.size = some (.cells (vals ((l.take i).map fun c => chI (cleanL c)) ++ List.replicate (l.length - i) (u8 0)) false))
    (fun i => [(3, .slice (some ⟨h.size, 0, none⟩) l.length l.length), (9, .slice a l.length cap), (10, .int .i64 (Int.ofNat l.length)), (11, .int .i64 (Int.ofNat i))]) (fun i => l.length - i) rfl
    ⟨0, ⟨Nat.zero_le _, n1.ext, n1.get⟩, rfl, rfl, rfl, rfl, trivial⟩ ?_
  rintro i base h2 ⟨hi, E, G⟩
  ((conv => whnf); repeat ((first | refine CodeS.step ?_ | refine RegS.step ?_ | refine RegXS.step ?_); (conv => whnf)))
  refine ⟨_, rfl, fun hc => ?_, fun hc => ?_⟩
  · replace hc := lt_of_ltI hc
    have h0 := hl _ (List.getElem_mem hc)
    ((conv => whnf); repeat ((first | refine CodeS.step ?_ | refine RegS.step ?_ | refine RegXS.step ?_); (conv => whnf)))
    refine (hs.ext E).indexK rfl rfl rfl rfl (j := i) (vals_get hc) fun g off cs ro hg he => ?_; ((conv => whnf); repeat ((first | refine CodeS.step ?_ | refine RegS.step ?_ | refine RegXS.step ?_); (conv => whnf)))
    refine ⟨_, he.loadK hg (i := 0) rfl rfl rfl, ?_⟩; ((conv => whnf); repeat ((first | refine CodeS.step ?_ | refine RegS.step ?_ | refine RegXS.step ?_); (conv => whnf)))
    refine ⟨_, _, clean_ok h0, ?_⟩; ((conv => whnf); repeat ((first | refine CodeS.step ?_ | refine RegS.step ?_ | refine RegXS.step ?_); (conv => whnf)))
    refine ⟨_, charK (clean_range' h0) rfl rfl, ?_⟩; ((conv => whnf); repeat ((first | refine CodeS.step ?_ | refine RegS.step ?_ | refine RegXS.step ?_); (conv => whnf)))
    refine indexK (s := 1) rfl rfl rfl rfl (j := i) hc ?_; ((conv => whnf); repeat ((first | refine CodeS.step ?_ | refine RegS.step ?_ | refine RegXS.step ?_); (conv => whnf)))
    refine storeK (n := 1) rfl G rfl rfl rfl (by simp [vals]; omega) rfl fun h5 u5 => ?_; ((conv => whnf); repeat ((first | refine CodeS.step ?_ | refine RegS.step ?_ | refine RegXS.step ?_); (conv => whnf)))
    refine ⟨_, addK (b := 1) rfl rfl (by omega), ?_⟩; ((conv => whnf); repeat ((first | refine CodeS.step ?_ | refine RegS.step ?_ | refine RegXS.step ?_); (conv => whnf)))
    refine ⟨i + 1, by omega, ⟨hc, u5.ext E (Nat.le_refl _), ?_⟩, rfl, rfl, rfl, rfl, trivial⟩
    have hlen : ((l.take i).map fun c => chI (cleanL c)).length = i := by simp; omega
    have hv := vals_set ((l.take i).map fun c => chI (cleanL c)) (chI (cleanL l[i])) l.length (by rw [hlen]; exact hc)
    have ht : (l.take (i + 1)).map (fun c => chI (cleanL c)) = (l.take i).map (fun c => chI (cleanL c)) ++ [chI (cleanL l[i])] := by
      rw [List.take_succ_eq_append_getElem hc, List.map_append]; rfl
    rw [← ht] at hv
    have hlen' : ((l.take (i + 1)).map fun c => chI (cleanL c)).length = i + 1 := by simp; omega
    rw [hlen, hlen'] at hv
    rw [← hv]
    have := u5.get
    simp only [Nat.zero_add, Nat.mul_one] at this
    exact this
  · replace hc := ge_of_ltI hc
    obtain rfl : i = l.length := by omega
    have G' : h2.get h.size = some (.cells ((chars l).map (Value.int .u8)) false) := by
      have e : vals ((l.take l.length).map fun c => chI (cleanL c)) ++ List.replicate (l.length - l.length) (u8 0) = (chars l).map (Value.int .u8) := by
        rw [List.take_length, Nat.sub_self, List.replicate_zero, List.append_nil]; rfl
      rw [G, e]
    ((conv => whnf); repeat ((first | refine CodeS.step ?_ | refine RegS.step ?_ | refine RegXS.step ?_); (conv => whnf)))
    refine ⟨_, bytesK rfl rfl rfl rfl G' (by simp [chars]), ?_⟩; ((conv => whnf); repeat ((first | refine CodeS.step ?_ | refine RegS.step ?_ | refine RegXS.step ?_); (conv => whnf)))
    exact ⟨rfl, E⟩

/-- The text of a clean pair. -/
def tb (x y : Int) : List UInt8 := if eqP x y 1 0 = true then [68] else if eqP x y 0 1 = true then [66] else if x = y then [ch x] else [ch x, 47, ch y]
def S (l : List UInt8) : Value := .string ⟨l.toArray⟩

theorem sl_one {g : Nat} {a : Int} {ro : Bool} (hg : h.get g = some (.cells [u8 a] ro)) : Sl h 1 (.slice (some ⟨g, 0, none⟩) 1 1) (vals [a]) := sl_vals (l := [a]) hg rfl
theorem one_nn {a : Int} (ha : 0 ≤ a) : ∀ x ∈ [a], 0 ≤ x := by intro x hx; simp only [List.mem_singleton] at hx; omega

theorem text_ok {a b : Int} (ha : 0 ≤ a) (hb : 0 ≤ b) : CallD Tryd.prog NG 20 #[pr a b] h (S (tb (cleanL a) (cleanL b))) h := by
  unfold tb
  refine fnP hM Tryd.func20 rfl (hP _ _ rfl Tryd.func20) (Nat.le_of_ble_eq_true rfl) (by kernel_rfl) ?_; ((conv => whnf); repeat ((first | refine CodeS.step ?_ | refine RegS.step ?_ | refine RegXS.step ?_); (conv => whnf)))
  refine ⟨_, _, boxK rfl, fun h1 n1 => ?_⟩; ((conv => whnf); repeat ((first | refine CodeS.step ?_ | refine RegS.step ?_ | refine RegXS.step ?_); (conv => whnf)))
  refine ⟨_, loadAggK rfl n1.get rfl rfl (Nat.le_of_ble_eq_true rfl) rfl, ?_⟩; ((conv => whnf); repeat ((first | refine CodeS.step ?_ | refine RegS.step ?_ | refine RegXS.step ?_); (conv => whnf)))
  refine ⟨_, _, pclean_ok ha hb, ?_⟩; ((conv => whnf); repeat ((first | refine CodeS.step ?_ | refine RegS.step ?_ | refine RegXS.step ?_); (conv => whnf)))
  refine storeK rfl n1.get rfl rfl rfl (Nat.le_of_ble_eq_true rfl) rfl fun h2 u2 => ?_; ((conv => whnf); repeat ((first | refine CodeS.step ?_ | refine RegS.step ?_ | refine RegXS.step ?_); (conv => whnf)))
  have e1 : h2.get h.size = some (.cells [.int .u8 (cleanL a), .int .u8 (cleanL b)] false) := u2.get
  have E : Ext h h2 := u2.ext n1.ext (Nat.le_refl _)
  refine ⟨_, loadAggK rfl e1 rfl rfl (Nat.le_of_ble_eq_true rfl) rfl, ?_⟩; ((conv => whnf); repeat ((first | refine CodeS.step ?_ | refine RegS.step ?_ | refine RegXS.step ?_); (conv => whnf)))
  refine ⟨.inl (by kernel_rfl), ?_⟩; ((conv => whnf); repeat ((first | refine CodeS.step ?_ | refine RegS.step ?_ | refine RegXS.step ?_); (conv => whnf)))
  refine ⟨_, _, D_ok, ?_⟩; ((conv => whnf); repeat ((first | refine CodeS.step ?_ | refine RegS.step ?_ | refine RegXS.step ?_); (conv => whnf)))
  refine ⟨.inl (Ext.refl _), ?_⟩; ((conv => whnf); repeat ((first | refine CodeS.step ?_ | refine RegS.step ?_ | refine RegXS.step ?_); (conv => whnf)))
  refine ⟨_, eqPair rfl rfl, ?_⟩; ((conv => whnf); repeat ((first | refine CodeS.step ?_ | refine RegS.step ?_ | refine RegXS.step ?_); (conv => whnf)))
  refine ⟨_, rfl, fun hc => ?_, fun hc => ?_⟩
  · have hc : eqP (cleanL a) (cleanL b) 1 0 = true := hc
    rw [if_pos hc]
    ((conv => whnf); repeat ((first | refine CodeS.step ?_ | refine RegS.step ?_ | refine RegXS.step ?_); (conv => whnf)))
    exact ⟨rfl, E⟩
  have hc : eqP (cleanL a) (cleanL b) 1 0 = false := hc
  rw [if_neg (by rw [hc]; simp)]
  ((conv => whnf); repeat ((first | refine CodeS.step ?_ | refine RegS.step ?_ | refine RegXS.step ?_); (conv => whnf)))
  refine ⟨_, loadAggK rfl e1 rfl rfl (Nat.le_of_ble_eq_true rfl) rfl, ?_⟩; ((conv => whnf); repeat ((first | refine CodeS.step ?_ | refine RegS.step ?_ | refine RegXS.step ?_); (conv => whnf)))
  refine ⟨.inl (by kernel_rfl), ?_⟩; ((conv => whnf); repeat ((first | refine CodeS.step ?_ | refine RegS.step ?_ | refine RegXS.step ?_); (conv => whnf)))
  refine ⟨_, _, B_ok, ?_⟩; ((conv => whnf); repeat ((first | refine CodeS.step ?_ | refine RegS.step ?_ | refine RegXS.step ?_); (conv => whnf)))
  refine ⟨.inl (Ext.refl _), ?_⟩; ((conv => whnf); repeat ((first | refine CodeS.step ?_ | refine RegS.step ?_ | refine RegXS.step ?_); (conv => whnf)))
  refine ⟨_, eqPair rfl rfl, ?_⟩; ((conv => whnf); repeat ((first | refine CodeS.step ?_ | refine RegS.step ?_ | refine RegXS.step ?_); (conv => whnf)))
  refine ⟨_, rfl, fun hc => ?_, fun hc => ?_⟩
  · have hc : eqP (cleanL a) (cleanL b) 0 1 = true := hc
    rw [if_pos hc]
    ((conv => whnf); repeat ((first | refine CodeS.step ?_ | refine RegS.step ?_ | refine RegXS.step ?_); (conv => whnf)))
    exact ⟨rfl, E⟩
  have hc : eqP (cleanL a) (cleanL b) 0 1 = false := hc
  rw [if_neg (by rw [hc]; simp)]
  ((conv => whnf); repeat ((first | refine CodeS.step ?_ | refine RegS.step ?_ | refine RegXS.step ?_); (conv => whnf)))
  refine ⟨_, loadK rfl e1 rfl rfl, ?_⟩; ((conv => whnf); repeat ((first | refine CodeS.step ?_ | refine RegS.step ?_ | refine RegXS.step ?_); (conv => whnf)))
  refine ⟨_, loadK rfl e1 rfl rfl, ?_⟩; ((conv => whnf); repeat ((first | refine CodeS.step ?_ | refine RegS.step ?_ | refine RegXS.step ?_); (conv => whnf)))
  refine ⟨_, rfl, fun hc => ?_, fun hc => ?_⟩
  · rw [beq_iff_eq] at hc
    rw [if_pos hc]
    ((conv => whnf); repeat ((first | refine CodeS.step ?_ | refine RegS.step ?_ | refine RegXS.step ?_); (conv => whnf)))
    refine ⟨_, loadK rfl e1 rfl rfl, ?_⟩; ((conv => whnf); repeat ((first | refine CodeS.step ?_ | refine RegS.step ?_ | refine RegXS.step ?_); (conv => whnf)))
    refine ⟨_, _, buildK (vs := [u8 (cleanL a)]) (s := 1) rfl rfl zeroValue plainsValue rfl rfl rfl rfl (one_mem rfl), fun h3 n3 => ?_⟩; ((conv => whnf); repeat ((first | refine CodeS.step ?_ | refine RegS.step ?_ | refine RegXS.step ?_); (conv => whnf)))
    refine ⟨_, _, ltext_ok (sl_one n3.get) (one_nn (cleanL_nonneg ha)) (by simp), ?_⟩; ((conv => whnf); repeat ((first | refine CodeS.step ?_ | refine RegS.step ?_ | refine RegXS.step ?_); (conv => whnf)))
    refine ⟨?_, n3.exts E⟩
    simp only [chars, List.map_cons, List.map_nil, clean_idem']
    rfl
  rw [beq_eq_false_iff_ne] at hc
  rw [if_neg hc]
  ((conv => whnf); repeat ((first | refine CodeS.step ?_ | refine RegS.step ?_ | refine RegXS.step ?_); (conv => whnf)))
  refine ⟨_, loadK rfl e1 rfl rfl, ?_⟩; ((conv => whnf); repeat ((first | refine CodeS.step ?_ | refine RegS.step ?_ | refine RegXS.step ?_); (conv => whnf)))
  refine ⟨.inl rfl, ?_⟩; ((conv => whnf); repeat ((first | refine CodeS.step ?_ | refine RegS.step ?_ | refine RegXS.step ?_); (conv => whnf)))
  refine ⟨_, _, buildK (vs := [u8 (cleanL a)]) (s := 1) rfl rfl zeroValue plainsValue rfl rfl rfl rfl (one_mem rfl), fun h3 n3 => ?_⟩; ((conv => whnf); repeat ((first | refine CodeS.step ?_ | refine RegS.step ?_ | refine RegXS.step ?_); (conv => whnf)))
  refine ⟨_, _, ltext_ok (sl_one n3.get) (one_nn (cleanL_nonneg ha)) (by simp), ?_⟩; ((conv => whnf); repeat ((first | refine CodeS.step ?_ | refine RegS.step ?_ | refine RegXS.step ?_); (conv => whnf)))
  refine ⟨.inl (Ext.refl _), ?_⟩; ((conv => whnf); repeat ((first | refine CodeS.step ?_ | refine RegS.step ?_ | refine RegXS.step ?_); (conv => whnf)))
  refine ⟨_, strAddK rfl rfl (Nat.le_of_ble_eq_true rfl), ?_⟩; ((conv => whnf); repeat ((first | refine CodeS.step ?_ | refine RegS.step ?_ | refine RegXS.step ?_); (conv => whnf)))
  have e1' := n3.keep e1
  refine ⟨_, loadK rfl e1' rfl rfl, ?_⟩; ((conv => whnf); repeat ((first | refine CodeS.step ?_ | refine RegS.step ?_ | refine RegXS.step ?_); (conv => whnf)))
  refine ⟨.inl rfl, ?_⟩; ((conv => whnf); repeat ((first | refine CodeS.step ?_ | refine RegS.step ?_ | refine RegXS.step ?_); (conv => whnf)))
  refine ⟨_, _, buildK (vs := [u8 (cleanL b)]) (s := 1) rfl rfl zeroValue plainsValue rfl rfl rfl rfl (one_mem rfl), fun h4 n4 => ?_⟩; ((conv => whnf); repeat ((first | refine CodeS.step ?_ | refine RegS.step ?_ | refine RegXS.step ?_); (conv => whnf)))
  refine ⟨_, _, ltext_ok (sl_one n4.get) (one_nn (cleanL_nonneg hb)) (by simp), ?_⟩; ((conv => whnf); repeat ((first | refine CodeS.step ?_ | refine RegS.step ?_ | refine RegXS.step ?_); (conv => whnf)))
  refine ⟨.inl (Ext.refl _), ?_⟩; ((conv => whnf); repeat ((first | refine CodeS.step ?_ | refine RegS.step ?_ | refine RegXS.step ?_); (conv => whnf)))
  refine ⟨_, strAddK rfl rfl (Nat.le_of_ble_eq_true rfl), ?_⟩; ((conv => whnf); repeat ((first | refine CodeS.step ?_ | refine RegS.step ?_ | refine RegXS.step ?_); (conv => whnf)))
  refine ⟨?_, n4.exts (n3.exts E)⟩
  simp only [chars, List.map_cons, List.map_nil, clean_idem']
  rfl
end Go.Proofs.YtbfgncmnallhlaaDoor
