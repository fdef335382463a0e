/-
  The package 'implies': Gate.
-/
import Derived.Test.YtedefohdeignpaaDoorGate5
namespace Go.Proofs.YtedefohdeignpaaDoor
open Go.Abs
set_option maxRecDepth 100000

def gateL (k o : Int) (l : List Int) : Option (Int × List Int) :=
  if methodB k = false then none
  else if (ltI l.length (loL k) || ltI (hiL k) l.length) = true then none
  else if (methodL k (readL o) (l.map readL)).1 = true then some (methodL k (readL o) (l.map readL)).2 else none

def methodI (k : Int) : Nat :=
  if k = 1 ∨ k = 2 ∨ k = 3 ∨ k = 4 ∨ k = 11 then 56
  else if k = 5 ∨ k = 6 ∨ k = 7 ∨ k = 8 then 57 else 58
theorem methodF_some {k : Int} (h : methodB k = true) : methodF k = .func (.func (methodI k)) #[] #[] := by
  have hk : 1 ≤ k ∧ k ≤ 11 := of_decide_eq_true h
  unfold methodF methodI
  split
  · rfl
  split
  · rfl
  rw [if_pos (by omega)]
theorem methodF_none {k : Int} (h : methodB k = false) : methodF k = .nilFunc := by
  have hk : ¬ (1 ≤ k ∧ k ≤ 11) := of_decide_eq_false h
  unfold methodF
  rw [if_neg (by omega), if_neg (by omega), if_neg (by omega)]

theorem firstOf_ext {h h1 : Heap} {s n : Nat} {x : Value} {l : List Value} (E : Ext h h1) (e : firstOf h s n x = some l) : firstOf h1 s n x = some l := by
  unfold firstOf at e ⊢
  split at e
  · exact e
  · split at e
    · rename_i hg
      rw [E.get hg]
      exact e
    · cases e
  · exact e
  · exact e
  · exact e
  · cases e

theorem vals_len (l : List Int) : (vals l).length = l.length := List.length_map ..
theorem firstOf_vals {h : Heap} {l : List Int} : firstOf h 1 l.length (FL 1 (vals l)) = some (vals l) := by
  have e : flatC ((vals l).take l.length) = vals l := by
    rw [← vals_len l, List.take_length]
    exact flatC_vals l
  show (match vals l with | [] => some [] | _ :: _ => some (flatC ((vals l).take l.length))) = _
  rw [e]
  cases vals l <;> rfl

/-- 'copy' over the whole of an object of its own. -/
theorem copyK {P : Program} {ρ : Operand → Value} {h : Heap} {d : Option Tmp} {ty : TypeId} {pos : String} {af : Array Edge} {gd : Option (Nat × Bool)} {td tx e : TypeId} {x y : Operand} {g n : Nat} {cs vs : List Value} {K : Value → Heap → Prop}
    (ht : P.underlying td = some (.slice e)) (hs : szOf P e = some 1) (hx : ρ x = .slice (some ⟨g, 0, none⟩) n n) (hy : lenOf (ρ y) = some n) (hf : firstOf h 1 n (ρ y) = some vs) (hg : h.get g = some (.cells cs false)) (hcs : cs.length = n) (hvs : vs.length = n) (h1 : vs.all Value.oneCell' = true)
    (k : ∀ h1, Upd h g (.cells vs false) h1 → K (goInt n) h1) :
    ∃ (v : Value) (T : Heap → Prop), (∃ h', aeff P ρ { dst := d, op := .call { callee := .builtin .copy, args := #[x, y], argTypes := #[td, tx] }, type := ty, pos := pos, after := af, guard := gd } h = some (v, h') ∧ T h') ∧ ∀ h1, T h1 → K v h1 := by
  refine ⟨goInt n, Upd h g (.cells vs false), ?_, k⟩
  unfold aeff aeffN
  have hmin : Nat.min n n = n := Nat.min_self n
  simp only [List.map_cons, List.map_nil, hx, ht, hs, hy, hmin, hf]
  unfold copyAt
  by_cases q : vs = []
  · subst q
    have : cs = [] := List.eq_nil_of_length_eq_zero (by simpa [← hvs] using hcs)
    subst this
    exact ⟨h, by simp, Upd.same hg⟩
  · rw [if_neg q]
    have hp : 0 < n := by
      rw [← hvs]; exact List.length_pos_iff.2 q
    simp only [hg]
    rw [if_pos ⟨by omega, h1, hp⟩]
    have e2 : splice cs 0 vs = vs := by
      unfold splice
      rw [List.take_zero, List.nil_append, List.drop_eq_nil_of_le (by omega), List.append_nil]
    exact ⟨_, rfl, by rw [e2]; exact Upd.upd _ (Heap.lt_of_get hg)⟩

section
variable {h : Heap} {a : Option Addr} {cap : Nat} {l : List Int}

theorem method_ok {gg gi : Nat} {k o : Int} (hb : methodB k = true) (hv : Vars h) (ho : 0 ≤ o) (hl : ∀ x ∈ l, 0 ≤ x) (hn : l.length ≤ 16) (h1 : loL k ≤ l.length) (h2 : (l.length : Int) ≤ hiL k) (G : GateAt h gg gi k o l) :
    ∃ h', CallD Tryd.prog NG (methodI k) #[.pointer (some ⟨gg, 0, none⟩)] h (.bool (methodL k o l).1) h' ∧ GateAt h' gg gi k (methodL k o l).2.1 (methodL k o l).2.2 ∧ GStep h h' gg gi := by
  have hk : 1 ≤ k ∧ k ≤ 11 := of_decide_eq_true hb
  unfold methodI methodL
  split
  · rename_i q
    exact tried_ok (by omega) (by omega) hv hn (known_rows q h1 h2) G
  split
  · exact controlled_ok (by omega) ho hl (by omega) G
  · exact parity_ok (by omega) ho hl (by omega) G

def GateRes (h h' : Heap) (v : Value) : Option (Int × List Int) → Prop
  | none => v = .tuple #[u8 0, .slice none 0 0, .bool false]
  | some (o1, l1) => ∃ gi, h.size ≤ gi ∧ v = .tuple #[u8 o1, .slice (some ⟨gi, 0, none⟩) l1.length l1.length, .bool true] ∧ h'.get gi = some (.cells (vals l1) false)

set_option maxHeartbeats 2000000 in
theorem gate_ok {k o : Int} (hk : 0 ≤ k) (hk2 : k < 256) (hv : Vars h) (ho : 0 ≤ o) (hl : ∀ x ∈ l, 0 ≤ x) (hn : l.length ≤ 16) :
    ∃ v h', CallD Tryd.prog NG 11 #[u8 k, u8 o, FL 1 (vals l)] h v h' ∧ (Ext h h' ∧ GateRes h h' v (gateL k o l)) := by
  generalize hR : gateL k o l = R
  unfold gateL at hR
  refine fnG hM Tryd.func11 rfl (hP _ _ rfl Tryd.func11) (Nat.le_of_ble_eq_true rfl) ?_; ((conv => whnf); repeat ((first | refine CodeS.step ?_ | refine RegS.step ?_ | refine RegXS.step ?_); (conv => whnf)))
  obtain ⟨h1, c1, E1⟩ := of_ok hk (h := h)
  cases hb : methodB k with
  | false =>
    rw [methodF_none hb, hb] at c1
    rw [if_pos hb] at hR
    refine ⟨_, h1, c1, ?_⟩
    ((conv => whnf); repeat ((first | refine CodeS.step ?_ | refine RegS.step ?_ | refine RegXS.step ?_); (conv => whnf)))
    (first | refine ⟨_, _, anew_alloc (z := .agg #[.nilFunc]) (by kernel_rfl) rfl rfl, fun h2 n2 => ?_⟩ | refine NewG.obj (anew_alloc (z := .agg #[.nilFunc]) (by kernel_rfl) rfl rfl) fun h2 n2 => ?_); ((conv => whnf); repeat ((first | refine CodeS.step ?_ | refine RegS.step ?_ | refine RegXS.step ?_); (conv => whnf)))
    refine storeK rfl n2.get rfl rfl rfl (Nat.le_of_ble_eq_true rfl) rfl fun h3 u3 => ?_; ((conv => whnf); repeat ((first | refine CodeS.step ?_ | refine RegS.step ?_ | refine RegXS.step ?_); (conv => whnf)))
    refine ⟨true, rfl, fun _ => ?_, (fun hc => nomatch hc)⟩; ((conv => whnf); repeat ((first | refine CodeS.step ?_ | refine RegS.step ?_ | refine RegXS.step ?_); (conv => whnf)))
    subst hR
    exact ⟨u3.ext (n2.exts E1) E1.1, rfl⟩
  | true =>
    rw [methodF_some hb, hb] at c1
    rw [if_neg (by rw [hb]; simp)] at hR
    refine ⟨_, h1, c1, ?_⟩
    ((conv => whnf); repeat ((first | refine CodeS.step ?_ | refine RegS.step ?_ | refine RegXS.step ?_); (conv => whnf)))
    (first | refine ⟨_, _, anew_alloc (z := .agg #[.nilFunc]) (by kernel_rfl) rfl rfl, fun h2 n2 => ?_⟩ | refine NewG.obj (anew_alloc (z := .agg #[.nilFunc]) (by kernel_rfl) rfl rfl) fun h2 n2 => ?_); ((conv => whnf); repeat ((first | refine CodeS.step ?_ | refine RegS.step ?_ | refine RegXS.step ?_); (conv => whnf)))
    refine storeK rfl n2.get rfl rfl rfl (Nat.le_of_ble_eq_true rfl) rfl fun h3 u3 => ?_; ((conv => whnf); repeat ((first | refine CodeS.step ?_ | refine RegS.step ?_ | refine RegXS.step ?_); (conv => whnf)))
    have E3 : Ext h h3 := u3.ext (n2.exts E1) E1.1
    have F3 : h3.get h1.size = some (.cells [.func (.func (methodI k)) #[] #[]] false) := u3.get
    have hv3 := hv.ext E3
    have hz := (Heap.lt_of_get F3)
    refine ⟨false, rfl, (fun hc => nomatch hc), fun _ => ?_⟩; ((conv => whnf); repeat ((first | refine CodeS.step ?_ | refine RegS.step ?_ | refine RegXS.step ?_); (conv => whnf)))
    refine ⟨_, _, fanin_ok hk hk2 hv3, ?_⟩; ((conv => whnf); repeat ((first | refine CodeS.step ?_ | refine RegS.step ?_ | refine RegXS.step ?_); (conv => whnf)))
    rw [vals_len]
    refine ⟨_, rfl, fun hc => ?_, fun hc => ?_⟩
    · rw [if_pos (by rw [show ltI (↑l.length) (loL k) = true from hc]; rfl)] at hR
      rw [hc]
      ((conv => whnf); repeat ((first | refine CodeS.step ?_ | refine RegS.step ?_ | refine RegXS.step ?_); (conv => whnf)))
      refine ⟨true, rfl, fun _ => ?_, (fun hc => nomatch hc)⟩; ((conv => whnf); repeat ((first | refine CodeS.step ?_ | refine RegS.step ?_ | refine RegXS.step ?_); (conv => whnf)))
      subst hR
      exact ⟨E3, rfl⟩
    have hlo := hc
    rw [hc]
    ((conv => whnf); repeat ((first | refine CodeS.step ?_ | refine RegS.step ?_ | refine RegXS.step ?_); (conv => whnf)))
    rw [vals_len]
    refine ⟨_, rfl, fun hc => ?_, fun hc => ?_⟩
    · rw [if_pos (by rw [show ltI (hiL k) (↑l.length) = true from hc]; simp)] at hR
      ((conv => whnf); repeat ((first | refine CodeS.step ?_ | refine RegS.step ?_ | refine RegXS.step ?_); (conv => whnf)))
      subst hR
      exact ⟨E3, rfl⟩
    rw [if_neg (by rw [show ltI (↑l.length) (loL k) = false from hlo, show ltI (hiL k) (↑l.length) = false from hc]; simp)] at hR
    have hhi := hc
    ((conv => whnf); repeat ((first | refine CodeS.step ?_ | refine RegS.step ?_ | refine RegXS.step ?_); (conv => whnf)))
    refine ⟨_, _, read_ok ho, ?_⟩; ((conv => whnf); repeat ((first | refine CodeS.step ?_ | refine RegS.step ?_ | refine RegXS.step ?_); (conv => whnf)))
    refine ⟨.inl (Ext.refl _), ?_⟩; ((conv => whnf); repeat ((first | refine CodeS.step ?_ | refine RegS.step ?_ | refine RegXS.step ?_); (conv => whnf)))
    rw [vals_len]
    (first | refine ⟨_, _, makeK (b := 1) rfl rfl rfl rfl rfl rfl rfl rfl (by omega) (by omega), fun h4 n4 => ?_⟩ | refine NewG.obj (makeK (b := 1) rfl rfl rfl rfl rfl rfl rfl rfl (by omega) (by omega)) fun h4 n4 => ?_); ((conv => whnf); repeat ((first | refine CodeS.step ?_ | refine RegS.step ?_ | refine RegXS.step ?_); (conv => whnf)))
    skip
    (first | refine ⟨_, _, boxK rfl, fun h5 n5 => ?_⟩ | refine NewG.obj (boxK rfl) fun h5 n5 => ?_); ((conv => whnf); repeat ((first | refine CodeS.step ?_ | refine RegS.step ?_ | refine RegXS.step ?_); (conv => whnf)))
    have g5 : h5.get h4.size = some (.cells [u8 k, u8 (readL o), .slice (some ⟨h3.size, 0, none⟩) l.length l.length] false) := n5.get
    refine ⟨_, loadK rfl g5 rfl rfl, ?_⟩; ((conv => whnf); repeat ((first | refine CodeS.step ?_ | refine RegS.step ?_ | refine RegXS.step ?_); (conv => whnf)))
    have E5 : Ext h h5 := n5.exts (n4.exts E3)
    have b5 : h5.get h3.size = some (.cells (List.replicate l.length (u8 0)) false) := n5.keep n4.get
    refine copyK rfl rfl rfl (congrArg some (vals_len l)) firstOf_vals b5 (by simp) (by simp [vals]) (by simp [vals, u8, Value.oneCell']) fun h6 u6 => ?_; ((conv => whnf); repeat ((first | refine CodeS.step ?_ | refine RegS.step ?_ | refine RegXS.step ?_); (conv => whnf)))
    have s4 := n4.size
    have s5 := n5.size
    have s6 := u6.size
    have G6 : GateAt h6 h4.size h3.size k (readL o) l := ⟨u6.keep (by omega) g5, u6.get, by omega⟩
    have E6 : Ext h h6 := u6.ext E5 E3.1
    have F6 : h6.get h1.size = some (.cells [.func (.func (methodI k)) #[] #[]] false) := u6.keep (by omega) (n5.keep (n4.keep F3))
    refine ⟨_, loadK rfl G6.g rfl rfl, ?_⟩; ((conv => whnf); repeat ((first | refine CodeS.step ?_ | refine RegS.step ?_ | refine RegXS.step ?_); (conv => whnf)))
    refine loopG (σ := List Int × List Int) (nn := 87) hM (by kernel_rfl)
      (fun (d, r) h7 => GateAt h7 h4.size h3.size k (readL o) (d.map readL ++ r) ∧ GStep h6 h7 h4.size h3.size ∧ d ++ r = l)
      (fun (d, _) => [(9, .pointer (some ⟨h1.size, 0, none⟩)), (13, .pointer (some ⟨h4.size, 0, none⟩)), (55, .int .i64 (Int.ofNat l.length)), (56, .int .i64 (Int.ofNat d.length))]) (fun (_, r) => r.length) rfl
      ⟨([], l), ⟨G6, GStep.refl _ _ _, rfl⟩, rfl, rfl, rfl, rfl, trivial⟩ ?_
    rintro ⟨d, r⟩ base h7 ⟨G7, S7, L7⟩
    have hdl : (d.map readL ++ r).length = l.length := by rw [← L7]; simp
    ((conv => whnf); repeat ((first | refine CodeS.step ?_ | refine RegS.step ?_ | refine RegXS.step ?_); (conv => whnf)))
    refine ⟨_, rfl, fun hc => ?_, fun hc => ?_⟩
    · replace hc := lt_of_ltI hc
      cases r with
      | nil => simp at L7; subst L7; omega
      | cons x r =>
        have hx0 : 0 ≤ x := hl x (by rw [← L7]; simp)
        have hat := vals_at (d.map readL) r x
        rw [List.length_map] at hat
        ((conv => whnf); repeat ((first | refine CodeS.step ?_ | refine RegS.step ?_ | refine RegXS.step ?_); (conv => whnf)))
        refine ⟨_, loadK rfl G7.g rfl rfl, ?_⟩; ((conv => whnf); repeat ((first | refine CodeS.step ?_ | refine RegS.step ?_ | refine RegXS.step ?_); (conv => whnf)))
        refine ⟨.inr (.inr (loadK rfl G7.g rfl rfl)), ?_⟩; ((conv => whnf); repeat ((first | refine CodeS.step ?_ | refine RegS.step ?_ | refine RegXS.step ?_); (conv => whnf)))
        refine ⟨_, loadK rfl G7.g rfl rfl, ?_⟩; ((conv => whnf); repeat ((first | refine CodeS.step ?_ | refine RegS.step ?_ | refine RegXS.step ?_); (conv => whnf)))
        refine ⟨.inr (.inr (loadK rfl G7.g rfl rfl)), ?_⟩; ((conv => whnf); repeat ((first | refine CodeS.step ?_ | refine RegS.step ?_ | refine RegXS.step ?_); (conv => whnf)))
        refine indexK rfl rfl rfl rfl (by rw [hdl]; exact hc) ?_
        ((conv => whnf); repeat ((first | refine CodeS.step ?_ | refine RegS.step ?_ | refine RegXS.step ?_); (conv => whnf)))
        refine ⟨_, loadK rfl G7.i rfl hat, ?_⟩; ((conv => whnf); repeat ((first | refine CodeS.step ?_ | refine RegS.step ?_ | refine RegXS.step ?_); (conv => whnf)))
        refine ⟨.inl rfl, ?_⟩; ((conv => whnf); repeat ((first | refine CodeS.step ?_ | refine RegS.step ?_ | refine RegXS.step ?_); (conv => whnf)))
        refine ⟨_, _, read_ok hx0, ?_⟩; ((conv => whnf); repeat ((first | refine CodeS.step ?_ | refine RegS.step ?_ | refine RegXS.step ?_); (conv => whnf)))
        refine ⟨.inl (Ext.refl _), ?_⟩; ((conv => whnf); repeat ((first | refine CodeS.step ?_ | refine RegS.step ?_ | refine RegXS.step ?_); (conv => whnf)))
        refine indexK rfl rfl rfl rfl (by rw [hdl]; exact hc) ?_
        ((conv => whnf); repeat ((first | refine CodeS.step ?_ | refine RegS.step ?_ | refine RegXS.step ?_); (conv => whnf)))
        refine storeK rfl G7.i rfl rfl rfl (by show 0 + d.length * 1 + 1 ≤ (vals (d.map readL ++ x :: r)).length; simp [vals]) rfl fun h8 u8' => ?_; ((conv => whnf); repeat ((first | refine CodeS.step ?_ | refine RegS.step ?_ | refine RegXS.step ?_); (conv => whnf)))
        refine ⟨.inl (by kernel_rfl), ?_⟩; ((conv => whnf); repeat ((first | refine CodeS.step ?_ | refine RegS.step ?_ | refine RegXS.step ?_); (conv => whnf)))
        have hset := vals_set (d.map readL) r x (readL x)
        rw [List.length_map] at hset
        have u8'' : Upd h7 h3.size (.cells (vals (d.map readL ++ readL x :: r)) false) h8 := by
          rw [← hset, ← splice_set (by simp [vals])]
          exact u8'
        obtain ⟨G8, S8⟩ := G7.inp (l1 := d.map readL ++ readL x :: r) (by simp) u8''
        refine ⟨_, addK (b := 1) rfl rfl (by omega), ?_⟩; ((conv => whnf); repeat ((first | refine CodeS.step ?_ | refine RegS.step ?_ | refine RegXS.step ?_); (conv => whnf)))
        exact ⟨(d ++ [x], r), by simp, ⟨by simpa using G8, S7.trans S8, by simpa using L7⟩, rfl, rfl, rfl, by simp; rfl, trivial⟩
    · replace hc := ge_of_ltI hc
      cases r with
      | cons x r => have := congrArg List.length L7; simp at this; omega
      | nil =>
        rw [List.append_nil] at L7
        subst L7
        rw [List.append_nil] at G7
        have F7 := S7.get F6 (by omega) (by omega)
        have hr0 : 0 ≤ readL o := readL_nonneg ho
        have hE3 := E3.1
        have hE6 := E6.1
        have toExt : ∀ h9, GStep h6 h9 h4.size h3.size → Ext h h9 := fun h9 S => ⟨Nat.le_trans hE6 S.size, fun g hg => by rw [S.other g (by omega) (by omega) (by omega)]; exact E6.2 g hg⟩
        have hlo2 : loL k ≤ (d.map readL).length := by rw [List.length_map]; exact ge_of_ltI' hlo
        have hhi2 : ((d.map readL).length : Int) ≤ hiL k := by rw [List.length_map]; exact ge_of_ltI' hhi
        obtain ⟨h8, c8, G8, S8⟩ := method_ok hb (hv.ext (toExt h7 S7)) hr0 (by intro x hx; obtain ⟨y, hy, rfl⟩ := List.mem_map.1 hx; exact readL_nonneg (hl y hy)) (by simpa using hn) hlo2 hhi2 G7
        generalize methodL k (readL o) (d.map readL) = M at c8 G8 hR
        obtain ⟨b, o1, l1⟩ := M
        simp only at c8 G8 hR
        ((conv => whnf); repeat ((first | refine CodeS.step ?_ | refine RegS.step ?_ | refine RegXS.step ?_); (conv => whnf)))
        refine ⟨_, loadK rfl F7 rfl rfl, ?_⟩; ((conv => whnf); repeat ((first | refine CodeS.step ?_ | refine RegS.step ?_ | refine RegXS.step ?_); (conv => whnf)))
        refine ⟨_, h8, c8, ?_⟩
        ((conv => whnf); repeat ((first | refine CodeS.step ?_ | refine RegS.step ?_ | refine RegXS.step ?_); (conv => whnf)))
        cases b with
        | false =>
          refine ⟨true, rfl, fun _ => ?_, (fun hc => nomatch hc)⟩; ((conv => whnf); repeat ((first | refine CodeS.step ?_ | refine RegS.step ?_ | refine RegXS.step ?_); (conv => whnf)))
          subst hR
          exact ⟨toExt h8 (S7.trans S8), rfl⟩
        | true =>
          refine ⟨false, rfl, (fun hc => nomatch hc), fun _ => ?_⟩; ((conv => whnf); repeat ((first | refine CodeS.step ?_ | refine RegS.step ?_ | refine RegXS.step ?_); (conv => whnf)))
          refine ⟨_, loadK rfl G8.g rfl rfl, ?_⟩; ((conv => whnf); repeat ((first | refine CodeS.step ?_ | refine RegS.step ?_ | refine RegXS.step ?_); (conv => whnf)))
          refine ⟨.inl rfl, ?_⟩; ((conv => whnf); repeat ((first | refine CodeS.step ?_ | refine RegS.step ?_ | refine RegXS.step ?_); (conv => whnf)))
          refine ⟨_, loadK rfl G8.g rfl rfl, ?_⟩; ((conv => whnf); repeat ((first | refine CodeS.step ?_ | refine RegS.step ?_ | refine RegXS.step ?_); (conv => whnf)))
          refine ⟨.inr (.inr (loadK rfl G8.g rfl rfl)), ?_⟩; ((conv => whnf); repeat ((first | refine CodeS.step ?_ | refine RegS.step ?_ | refine RegXS.step ?_); (conv => whnf)))
          subst hR
          exact ⟨toExt h8 (S7.trans S8), h3.size, hE3, rfl, G8.i⟩
end
end Go.Proofs.YtedefohdeignpaaDoor
