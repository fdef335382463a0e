/-
  Symbolic steps: what is to be shown of a piece of code, as a proposition that comes out step by step under 'whnf'.
-/
import Derived.Test.YtedefohdeignpaaDoorAbsS
namespace Go.Abs

/-! ### values and places written out -/

def forceV0 (v : Value) (K : Value → Prop) : Prop :=
  match v with
  | .bool b => K (.bool b)
  | .int k n => K (.int k n)
  | .float k n => K (.float k n)
  | .complex k a b => K (.complex k a b)
  | .string s => K (.string s)
  | .pointer a => K (.pointer a)
  | .slice a n c => K (.slice a n c)
  | .map r => K (.map r)
  | .chan r => K (.chan r)
  | .func f a b => K (.func f a b)
  | .nilFunc => K .nilFunc
  | .iface t v => K (.iface t v)
  | .nilIface => K .nilIface
  | .agg cs => K (.agg cs)
  | .tuple cs => K (.tuple cs)

theorem forceV0_iff {v : Value} {K : Value → Prop} : forceV0 v K ↔ K v := by cases v <;> exact Iff.rfl

def forceL (l : List Value) (K : List Value → Prop) : Prop :=
  match l with
  | [] => K []
  | v :: r => forceV0 v fun v => forceL r fun r => K (v :: r)

theorem forceL_iff : ∀ {l : List Value} {K : List Value → Prop}, forceL l K ↔ K l
  | [], _ => Iff.rfl
  | v :: r, K => by
    unfold forceL
    rw [forceV0_iff, forceL_iff]

def forceA (a : Array Value) (K : Array Value → Prop) : Prop :=
  match a with
  | ⟨l⟩ => forceL l fun l => K ⟨l⟩

theorem forceA_iff {a : Array Value} {K : Array Value → Prop} : forceA a K ↔ K a := by
  cases a; exact forceL_iff

/-- A value written out: an aggregate's cells, a function's captured values too. -/
def forceV (v : Value) (K : Value → Prop) : Prop :=
  match v with
  | .bool b => K (.bool b)
  | .int k n => K (.int k n)
  | .float k n => K (.float k n)
  | .complex k a b => K (.complex k a b)
  | .string s => K (.string s)
  | .pointer a => match a with
    | none => K (.pointer none)
    | some ⟨g, off, sp⟩ => K (.pointer (some ⟨g, off, sp⟩))
  | .slice a n c => match a with
    | none => K (.slice none n c)
    | some ⟨g, off, sp⟩ => K (.slice (some ⟨g, off, sp⟩) n c)
  | .map r => K (.map r)
  | .chan r => K (.chan r)
  | .func f a b => forceA a fun a => forceA b fun b => K (.func f a b)
  | .nilFunc => K .nilFunc
  | .iface t v => K (.iface t v)
  | .nilIface => K .nilIface
  | .agg cs => forceA cs fun cs => K (.agg cs)
  | .tuple cs => forceA cs fun cs => K (.tuple cs)

theorem forceV_iff {v : Value} {K : Value → Prop} : forceV v K ↔ K v := by
  cases v <;> try exact Iff.rfl
  case pointer a => cases a with
    | none => exact Iff.rfl
    | some a => obtain ⟨g, off, sp⟩ := a; exact Iff.rfl
  case slice a n c => cases a with
    | none => exact Iff.rfl
    | some a => obtain ⟨g, off, sp⟩ := a; exact Iff.rfl
  case func f a b =>
    show (forceA a fun a => forceA b fun b => K (.func f a b)) ↔ _
    rw [forceA_iff, forceA_iff]
  case agg cs => exact forceA_iff (K := fun cs => K (.agg cs))
  case tuple cs => exact forceA_iff (K := fun cs => K (.tuple cs))

/-- A place set, the tree written out on the way. -/
def Tr.setK {α : Type} (x : α) : Nat → Tr α → Nat → (Tr α → Prop) → Prop
  | 0, t, _, K => K t
  | f + 1, .nil, n, K =>
    match decide (n = 0) with
    | true => K (.node .nil (some x) .nil)
    | false => match decide (n % 2 = 1) with
      | true => Tr.setK x f .nil (n / 2) fun t => K (.node t none .nil)
      | false => Tr.setK x f .nil (n / 2 - 1) fun t => K (.node .nil none t)
  | f + 1, .node l v r, n, K =>
    match decide (n = 0) with
    | true => K (.node l (some x) r)
    | false => match decide (n % 2 = 1) with
      | true => Tr.setK x f l (n / 2) fun t => K (.node t v r)
      | false => Tr.setK x f r (n / 2 - 1) fun t => K (.node l v t)

theorem Tr.setK_iff {α : Type} (x : α) : ∀ (f : Nat) (t : Tr α) (n : Nat) (K : Tr α → Prop), Tr.setK x f t n K ↔ K (Tr.setF f t n x)
  | 0, _, _, _ => Iff.rfl
  | f + 1, .nil, n, K => by
    unfold Tr.setK Tr.setF
    by_cases h : n = 0
    · simp [h]
    · by_cases h2 : n % 2 = 1
      · simp only [h, h2, decide_false, decide_true, if_false, if_true]; exact Tr.setK_iff x f _ _ _
      · simp only [h, h2, decide_false, if_false]; exact Tr.setK_iff x f _ _ _
  | f + 1, .node l v r, n, K => by
    unfold Tr.setK Tr.setF
    by_cases h : n = 0
    · simp [h]
    · by_cases h2 : n % 2 = 1
      · simp only [h, h2, decide_false, decide_true, if_false, if_true]; exact Tr.setK_iff x f _ _ _
      · simp only [h, h2, decide_false, if_false]; exact Tr.setK_iff x f _ _ _

def putK (e : Env) (d : Option Tmp) (v : Value) (K : Env → Prop) : Prop :=
  match d with
  | none => K e
  | some i => match e with
    | ⟨n, t, b⟩ => forceV v fun v => Tr.setK v (i + 1) t i fun t => K ⟨n, t, b⟩

theorem putK_iff {e : Env} {d : Option Tmp} {v : Value} {K : Env → Prop} : putK e d v K ↔ K (e.put d v) := by
  cases d with
  | none => exact Iff.rfl
  | some i =>
    cases e
    unfold putK
    simp only [forceV_iff, Tr.setK_iff]
    exact Iff.rfl

/-- A tree written out, its leaves to their heads. -/
def forceT {α : Type} : Tr α → (Tr α → Prop) → Prop
  | .nil, K => K .nil
  | .node l v r, K => forceT l fun l => forceT r fun r => match v with
    | none => K (.node l none r)
    | some x => K (.node l (some x) r)

theorem forceT_iff {α : Type} : ∀ (t : Tr α) (K : Tr α → Prop), forceT t K ↔ K t
  | .nil, _ => Iff.rfl
  | .node l v r, K => by
    unfold forceT
    rw [forceT_iff l, forceT_iff r]
    cases v <;> exact Iff.rfl

/-- A heap behind a step, written out. -/
def heapK (h : Heap) (K : Heap → Prop) : Prop :=
  match h with
  | ⟨n, t, l⟩ => forceT t fun t => K ⟨n, t, l⟩

theorem heapK_iff {h : Heap} {K : Heap → Prop} : heapK h K ↔ K h := by
  cases h
  exact forceT_iff _ _

/-- A call's function and arguments, as a list. -/
def acalleeL (ρ : Operand → Value) (op : Op) : Option (FuncId × List Value) :=
  match op with
  | .call { callee := .value f, args, .. } =>
    match ρ f with
    | .func (.func f) first captured => some (f, first.toList ++ (args.toList.map ρ ++ captured.toList))
    | _ => none
  | _ => none

theorem acalleeL_eq {ρ : Operand → Value} {op : Op} {f : FuncId} {l : List Value} (h : acalleeL ρ op = some (f, l)) : acallee ρ op = some (f, ⟨l⟩) := by
  cases op <;> try (simp [acalleeL] at h; done)
  rename_i c
  obtain ⟨callee, args, argTypes⟩ := c
  cases callee <;> try (simp [acalleeL] at h; done)
  rename_i x
  simp only [acalleeL] at h
  simp only [acallee]
  split at h
  · rename_i g first captured hq
    simp only [Option.some.injEq, Prod.mk.injEq] at h
    obtain ⟨rfl, rfl⟩ := h
    rw [hq]
    simp only [Option.some.injEq, Prod.mk.injEq, true_and]
    apply Array.ext'
    simp
  · cases h

/-! ### operations -/

/-- The part of 'apure' that comes out by itself. -/
def easy (P : Program) (ρ : Operand → Value) (o : Oper) : Option Value :=
  match o.op with
  | .convert .. => none
  | .build t ps => match buildL P t (ps.toList.map fun p => (p.1, ρ p.2)) with
    | some l => some (.agg ⟨l⟩)
    | none => none
  | .field t x i =>
    match P.underlying t, ρ x with
    | some (.struct fs), .agg cs => match fs[i]? with
      | some f => partL P f.type cs f.offset
      | none => none
    | _, _ => none
  | .binOp op t x y _ => match quick (P.underlying t) op (ρ x) (ρ y) with
    | some v => some v
    | none => match op with
      | .eql => match P.underlying t with
        | some d => match nilEq d (ρ x) (ρ y) with
          | some b => some (.bool b)
          | none => none
        | none => none
      | .neq => match P.underlying t with
        | some d => match nilEq d (ρ x) (ρ y) with
          | some b => some (.bool !b)
          | none => none
        | none => none
      | _ => none
  | .unOp op _ x =>
    match op, ρ x with
    | .not, .bool b => some (.bool !b)
    | _, _ => none
  | .index t _ _ =>
    match P.underlying t with
    | some .string => none
    | _ => apure P ρ o
  | .slice t _ _ _ _ =>
    match P.underlying t with
    | some .string => none
    | _ => apure P ρ o
  | .call { callee := .builtin b, argTypes, args } =>
    match b with
    | .len =>
      match (argTypes.toList[0]?).bind P.underlying, args.toList.map ρ with
      | some (.slice _), [.slice _ n _] => some (goInt n)
      | some (.slice _), [.iface _ (.tuple ⟨es⟩)] => some (goInt es.length)
      | some (.slice _), [.iface _ (.bool _)] => some (goInt 0)
      | _, _ => none
    | _ => none
  | _ => apure P ρ o

theorem easy_ok {P : Program} {ρ : Operand → Value} {o : Oper} {v : Value} (h : easy P ρ o = some v) : apure P ρ o = some v := by
  unfold easy at h
  split at h
  · cases h
  · rename_i t ps ho
    split at h
    · rename_i l hl
      cases h
      obtain ⟨z, h1, h2, h3⟩ := buildL_ok hl
      unfold apure
      rw [ho]
      simp only [h1, h2, if_true, h3, Option.map_some]
    · cases h
  · rename_i t x i ho
    split at h
    · rename_i fs cs hu hx
      split at h
      · rename_i f hf
        unfold apure
        rw [ho]
        simp only [hu, hx, hf]
        exact partL_ok h
      · cases h
    · cases h
  · rename_i op t x y ty ho
    unfold apure
    rw [ho]
    split at h
    · rename_i hq
      cases h
      simp only [hq]
    · rename_i hq
      simp only [hq]
      split at h
      · split at h
        · rename_i d hu
          split at h
          · rename_i b hb
            cases h
            simp only [hu, hb]
          · cases h
        · cases h
      · split at h
        · rename_i d hu
          split at h
          · rename_i b hb
            cases h
            simp only [hu, hb]
          · cases h
        · cases h
      · cases h
  · rename_i op t x ho
    unfold apure
    rw [ho]
    split at h
    · rename_i q
      simp only [Option.some.injEq] at h
      subst h
      simp only [q]
    · cases h
  · split at h
    · cases h
    · exact h
  · split at h
    · cases h
    · exact h
  · rename_i b args argTypes ho
    split at h
    · split at h
      · rename_i el _ _ _ q1 q2
        unfold apure
        rw [ho]
        have q1' : (argTypes[0]?).bind P.underlying = some (.slice el) := by simpa using q1
        simp only [q1', q2, h]
      · rename_i el _ _ q1 q2
        unfold apure
        rw [ho]
        have q1' : (argTypes[0]?).bind P.underlying = some (.slice el) := by simpa using q1
        simp only [q1', q2, h]
      · rename_i el _ _ q1 q2
        unfold apure
        rw [ho]
        have q1' : (argTypes[0]?).bind P.underlying = some (.slice el) := by simpa using q1
        simp only [q1', q2, h]
      · cases h
    · cases h
  · exact h

def opK (P : Program) (N : Nat) (o : Oper) (e : Env) (h : Heap) (K : Value → Heap → Prop) : Prop :=
  match cls o.op with
  | .pure => match easy P e.eval o with
    | some v => K v h
    | none => ∃ v, apure P e.eval o = some v ∧ K v h
  | .read => ∃ v, aread P e.eval o h = some v ∧ K v h
  | .new => ∃ ob f, anew P e.eval o = some (ob, f) ∧ match h with
    | ⟨n, t, l⟩ => heapK (Heap.push ⟨n, t, l⟩ ob) (K (f n))
  | .eff => match h with
    | ⟨n, t, l⟩ => ∃ v h', aeffN P e.eval o ⟨n, t, l⟩ n = some (v, h') ∧ heapK h' (K v)
  | .call => match acalleeL e.eval o.op with
    | some (f, l) => forceL l fun l => ∃ v h', CallD P N f ⟨l⟩ h v h' ∧ K v h'
    | none => False

theorem opK_spec {P : Program} {N : Nat} {o : Oper} {e : Env} {h : Heap} {K : Value → Heap → Prop} (hk : opK P N o e h K) : ∃ v h', OpD P N o e h v h' ∧ K v h' := by
  unfold opK at hk
  cases hc : cls o.op with
  | pure =>
    simp only [hc] at hk
    split at hk
    · rename_i v hv; exact ⟨v, h, OpD.pure hc (easy_ok hv), hk⟩
    · obtain ⟨v, hv, hk⟩ := hk
      exact ⟨v, h, OpD.pure hc hv, hk⟩
  | read =>
    simp only [hc] at hk
    obtain ⟨v, hv, hk⟩ := hk
    exact ⟨v, h, OpD.read hc hv, hk⟩
  | new =>
    simp only [hc] at hk
    obtain ⟨ob, f, hv, hk⟩ := hk
    exact ⟨_, _, OpD.new hc hv, heapK_iff.1 hk⟩
  | eff =>
    simp only [hc] at hk
    obtain ⟨v, h', hv, hk⟩ := hk
    exact ⟨v, h', OpD.eff hc hv, heapK_iff.1 hk⟩
  | call =>
    simp only [hc] at hk
    split at hk
    · rename_i f l hv
      rw [forceL_iff] at hk
      obtain ⟨v, h', hd, hk⟩ := hk
      exact ⟨v, h', OpD.call hc (acalleeL_eq hv) hd, hk⟩
    · exact hk.elim

def regK (P : Program) (N : Nat) (ops : Array Oper) : List Oper → Env → Heap → (Env → Heap → Prop) → Prop
  | [], e, h, K => K e h
  | o :: r, e, h, K =>
    match Region.wanted o (ayielded ops e) with
    | true => opK P N o e h fun v h => putK e o.dst v fun e => regK P N ops r e h K
    | false => putK e o.dst undef fun e => regK P N ops r e h K

theorem regK_spec {P : Program} {N : Nat} {ops : Array Oper} : ∀ {l : List Oper} {e : Env} {h : Heap} {K : Env → Heap → Prop}, regK P N ops l e h K → ∃ e1 h1, RegD P N ops l e h e1 h1 ∧ K e1 h1
  | [], e, h, K, hk => ⟨e, h, ⟨rfl, rfl⟩, hk⟩
  | o :: r, e, h, K, hk => by
    unfold regK at hk
    split at hk
    · rename_i hw
      obtain ⟨v, h1, hd, hk⟩ := opK_spec hk
      rw [putK_iff] at hk
      obtain ⟨e2, h2, hr, hk⟩ := regK_spec hk
      refine ⟨e2, h2, ?_, hk⟩
      unfold RegD
      rw [if_pos hw]
      exact ⟨v, h1, .inl hd, hr⟩
    · rename_i hw
      rw [putK_iff] at hk
      obtain ⟨e2, h2, hr, hk⟩ := regK_spec hk
      refine ⟨e2, h2, ?_, hk⟩
      unfold RegD
      rw [if_neg (by rw [hw]; simp)]
      exact hr

/-- What is asked of an operation of a region that draws, beside its step. -/
def drawK (P : Program) (ops : Array Oper) (h0 : Heap) (k : Nat) (o : Oper) (e : Env) (h : Heap) (K : Value → Heap → Prop) (v : Value) (h1 : Heap) : Prop :=
  match cls o.op with
  | .read => (plain v = true ∨ promptAt ops k = true ∨ aread P e.eval o h0 = some v) ∧ K v h1
  | .eff => (strictAt ops k = true ∨ Ext h h1) ∧ K v h1
  | .call => (Ext h h1 ∨ strictAt ops k = true) ∧ K v h1
  | _ => K v h1

def regX (P : Program) (N : Nat) (ops : Array Oper) (h0 : Heap) : List Oper → Nat → Env → Heap → (Env → Heap → Prop) → Prop
  | [], _, e, h, K => K e h
  | o :: r, k, e, h, K =>
    match Region.wanted o (ayielded ops e) with
    | true => opK P N o e h (drawK P ops h0 k o e h fun v h => putK e o.dst v fun e => regX P N ops h0 r (k + 1) e h K)
    | false => putK e o.dst undef fun e => regX P N ops h0 r (k + 1) e h K

theorem regX_spec {P : Program} {N : Nat} {ops : Array Oper} {h0 : Heap} : ∀ {l : List Oper} {k : Nat} {e : Env} {h : Heap} {K : Env → Heap → Prop}, regX P N ops h0 l k e h K → ∃ e1 h1, RegX P N ops h0 l k e h e1 h1 ∧ K e1 h1
  | [], k, e, h, K, hk => ⟨e, h, ⟨rfl, rfl⟩, hk⟩
  | o :: r, k, e, h, K, hk => by
    unfold regX at hk
    split at hk
    · rename_i hw
      obtain ⟨v, h1, hd, hk⟩ := opK_spec hk
      have key : ((isChain o = true → strictAt ops k = true ∨ Ext h h1) ∧ (isRead o = true → promptAt ops k = true ∨ plain v = true ∨ aread P e.eval o h0 = some v)) ∧
          (putK e o.dst v fun e => regX P N ops h0 r (k + 1) e h1 K) := by
        unfold drawK at hk
        unfold isChain isRead
        cases hc : cls o.op <;> simp only [hc] at hk ⊢
        · exact ⟨⟨by simp, by simp⟩, hk⟩
        · refine ⟨⟨by simp, fun _ => ?_⟩, hk.2⟩
          rcases hk.1 with q | q | q
          · exact .inr (.inl q)
          · exact .inl q
          · exact .inr (.inr q)
        · exact ⟨⟨by simp, by simp⟩, hk⟩
        · exact ⟨⟨fun _ => hk.1, by simp⟩, hk.2⟩
        · exact ⟨⟨fun _ => hk.1.symm, by simp⟩, hk.2⟩
      obtain ⟨⟨c1, c2⟩, hk⟩ := key
      rw [putK_iff] at hk
      obtain ⟨e2, h2, hr, hk⟩ := regX_spec hk
      refine ⟨e2, h2, ?_, hk⟩
      unfold RegX
      rw [if_pos hw]
      exact ⟨v, h1, ⟨hd, c1, c2⟩, hr⟩
    · rename_i hw
      rw [putK_iff] at hk
      obtain ⟨e2, h2, hr, hk⟩ := regX_spec hk
      refine ⟨e2, h2, ?_, hk⟩
      unfold RegX
      rw [if_neg (by rw [hw]; simp)]
      exact hr

/-! ### code -/

/-- What is to be shown of a loop: to be met by 'loopK'. -/
def LoopK (P : Program) (N : Nat) (c : Code) (e : Env) (h : Heap) (K : X → Env → Heap → Prop) : Prop := ∃ x e1 h1, CodeD P N (.loop c) e h (X.toExit x) e1 h1 ∧ K x e1 h1

def codeK (P : Program) (N : Nat) : Code → Env → Heap → (X → Env → Heap → Prop) → Prop
  | .skip, e, h, K => K .normal e h
  | .label _, e, h, K => K .normal e h
  | .exit id, e, h, K => K (.exit id) e h
  | .ret, e, h, K => K .ret e h
  | .region _ ops false, e, h, K => regK P N ops ops.toList e h (K .normal)
  | .region _ ops true, e, h, K => regX P N ops h ops.toList 0 e h (K .normal)
  | .seq a b, e, h, K => codeK P N a e h fun x e h => match x with
    | .normal => codeK P N b e h K
    | .exit id => K (.exit id) e h
    | .ret => K .ret e h
  | .cond c a b, e, h, K => match e.eval c with
    | .bool t => match t with
      | true => codeK P N a e h K
      | false => codeK P N b e h K
    | _ => False
  | .block id c, e, h, K => codeK P N c e h fun x e h => match x with
    | .normal => K .normal e h
    | .exit id' => match decide (id' = id) with
      | true => K .normal e h
      | false => K (.exit id') e h
    | .ret => K .ret e h
  | .loop c, e, h, K => LoopK P N c e h K
  | .scope c, e, h, K => codeK P N c e h K
  | _, _, _, _ => False

section
variable {P : Program} {N : Nat}

theorem codeK_spec (hM : P.follows .mixedOrders = true) {nn : Nat} : ∀ (c : Code), codeOk N nn c = true → ∀ {e : Env} {h : Heap} {K : X → Env → Heap → Prop}, e.n = nn → codeK P N c e h K → ∃ x e1 h1, CodeD P N c e h (X.toExit x) e1 h1 ∧ K x e1 h1 := by
  intro c
  induction c with
  | skip => intro _ e h K _ hk; exact ⟨.normal, e, h, CodeD.skip, hk⟩
  | label l => intro _ e h K _ hk; exact ⟨.normal, e, h, CodeD.label, hk⟩
  | exit id => intro _ e h K _ hk; exact ⟨.exit id, e, h, CodeD.exit, hk⟩
  | ret => intro _ e h K _ hk; exact ⟨.ret, e, h, CodeD.ret, hk⟩
  | region id ops d =>
    intro hok e h K hn hk
    simp only [codeOk, Bool.and_eq_true] at hok
    subst hn
    cases d with
    | false =>
      obtain ⟨e1, h1, hr, hk⟩ := regK_spec (show regK P N ops ops.toList e h (K .normal) from hk)
      exact ⟨.normal, e1, h1, CodeD.region hok.1 hr, hk⟩
    | true =>
      obtain ⟨e1, h1, hr, hk⟩ := regX_spec (show regX P N ops h ops.toList 0 e h (K .normal) from hk)
      exact ⟨.normal, e1, h1, CodeD.draw hM (by simpa using hok.2) hok.1 hr, hk⟩
  | seq a b iha ihb =>
    intro hok e h K hn hk
    simp only [codeOk, Bool.and_eq_true] at hok
    obtain ⟨x, e1, h1, c1, hk⟩ := iha hok.1 hn (show codeK P N a e h _ from hk)
    cases x with
    | normal =>
      obtain ⟨x, e2, h2, c2, hk⟩ := ihb hok.2 (c1.1.2.trans hn) (show codeK P N b e1 h1 K from hk)
      exact ⟨x, e2, h2, CodeD.seq c1 c2, hk⟩
    | exit id => exact ⟨.exit id, e1, h1, CodeD.seq_exit c1 (by simp [X.toExit]), hk⟩
    | ret => exact ⟨.ret, e1, h1, CodeD.seq_exit c1 (by simp [X.toExit]), hk⟩
  | cond c a b iha ihb =>
    intro hok e h K hn hk
    simp only [codeOk, Bool.and_eq_true] at hok
    simp only [codeK] at hk
    split at hk
    · rename_i t ht
      cases t with
      | true =>
        obtain ⟨x, e1, h1, c1, hk⟩ := iha hok.1.2 hn hk
        exact ⟨x, e1, h1, CodeD.cond (by rw [hn]; exact hok.1.1) ht c1, hk⟩
      | false =>
        obtain ⟨x, e1, h1, c1, hk⟩ := ihb hok.2 hn hk
        exact ⟨x, e1, h1, CodeD.cond (by rw [hn]; exact hok.1.1) ht c1, hk⟩
    · exact hk.elim
  | block id c ih =>
    intro hok e h K hn hk
    simp only [codeOk] at hok
    obtain ⟨x, e1, h1, c1, hk⟩ := ih hok hn (show codeK P N c e h _ from hk)
    cases x with
    | normal => exact ⟨.normal, e1, h1, CodeD.block c1 (by simp [X.toExit]), hk⟩
    | ret => exact ⟨.ret, e1, h1, CodeD.block c1 (by simp [X.toExit]), hk⟩
    | exit id' =>
      by_cases he : id' = id
      · subst he
        refine ⟨.normal, e1, h1, CodeD.block_exit c1, ?_⟩
        simpa using hk
      · refine ⟨.exit id', e1, h1, CodeD.block c1 (by simp only [X.toExit]; intro q; cases q; exact he rfl), ?_⟩
        simpa [he] using hk
  | loop c ih => intro _ e h K _ hk; exact hk
  | scope c ih =>
    intro hok e h K hn hk
    simp only [codeOk] at hok
    obtain ⟨x, e1, h1, c1, hk⟩ := ih hok hn (show codeK P N c e h K from hk)
    exact ⟨x, e1, h1, CodeD.scope c1 (by intro l; cases x <;> simp [X.toExit]), hk⟩
  | goto l => intro _ e h K _ hk; exact hk.elim
  | rangeFunc f ps a b _ _ => intro _ e h K _ hk; exact hk.elim
  | refuse w => intro _ e h K _ hk; exact hk.elim

/-- A function: what is to be shown of its body. -/
theorem fnK (hM : P.follows .mixedOrders = true) {f : FuncId} {fn : Func} {c : Code} (hf : P.funcs[f]? = some fn) (hb : fn.body = some c) (ho : funcOk N fn = true) {vs : Array Value} (hs : vs.size ≤ fn.ntmps) {h : Heap} {Q : Value → Heap → Prop}
    (hk : codeK P N c (initEnv fn.ntmps vs) h fun x e1 h1 => match x with
      | .exit _ => False
      | _ => match aresults P fn e1 h1 with
        | some v => Q v h1
        | none => False) : ∃ v h', CallD P N f vs h v h' ∧ Q v h' := by
  obtain ⟨ok1, ok2⟩ := fnOk_of hf hb ho
  obtain ⟨x, e1, h1, c1, hk⟩ := codeK_spec hM c ok2 (initEnv_n _ _) hk
  cases x with
  | exit id => exact hk.elim
  | normal =>
    simp only at hk
    split at hk
    · rename_i v hv
      exact ⟨v, h1, CallD.body hf hb ok1 hs (.inl rfl) c1 hv, hk⟩
    · exact hk.elim
  | ret =>
    simp only at hk
    split at hk
    · rename_i v hv
      exact ⟨v, h1, CallD.body hf hb ok1 hs (.inr rfl) c1 hv, hk⟩
    · exact hk.elim

/-! ### loops -/

theorem ERel.congr {ι : Inj} {e e' : Env} {a : Act} (hn : e'.n = e.n) (hg : ∀ t, t < e.n → e'.get t = e.get t) (r : ERel ι e a) : ERel ι e' a :=
  ⟨r.defers, r.size.trans hn.symm, fun t ht => by rw [hg t (hn ▸ ht)]; exact r.get t (hn ▸ ht)⟩

theorem CodeD.congr {c : Code} {e e' : Env} {h h1 : Heap} {ex : Exit} {e1 : Env} (hn : e'.n = e.n) (hg : ∀ t, t < e.n → e'.get t = e.get t) (hc : CodeD P N c e' h ex e1 h1) : CodeD P N c e h ex e1 h1 :=
  ⟨⟨hc.1.1, hc.1.2.trans hn⟩, fun ι w a H r => hc.2 ι w a H (r.congr hn hg)⟩

def slots : List (Nat × Value) → Tr Value
  | [] => .nil
  | (i, v) :: r => (slots r).set i v

def holds (l : List (Nat × Value)) (e : Env) : Prop := ∀ p ∈ l, e.get p.1 = p.2

theorem slots_get {l : List (Nat × Value)} {e : Env} (h : holds l e) (j : Nat) : (⟨e.n, slots l, e.get⟩ : Env).get j = e.get j := by
  induction l with
  | nil => rfl
  | cons p r ih =>
    have h' : holds r e := fun q m => h q (by simp [m])
    have hp := h p (by simp)
    show (match ((slots r).set p.1 p.2).get j with | some v => v | none => e.get j) = e.get j
    rw [Tr.get_set]
    by_cases c : j = p.1
    · subst c; simp [hp]
    · rw [if_neg c]; exact ih h'

/-- A loop: a state s of its own, with what the places hold and the heap as functions of it; each round lowers a measure. -/
theorem loopK (hM : P.follows .mixedOrders = true) {c : Code} {nn : Nat} (hok : codeOk N nn c = true) {σ : Type} (I : σ → Prop) (env : σ → List (Nat × Value)) (hp : σ → Heap) (μ : σ → Nat) {e : Env} {h : Heap} {K : X → Env → Heap → Prop} (hn : e.n = nn)
    (start : ∃ s, I s ∧ holds (env s) e ∧ hp s = h)
    (round : ∀ s base, I s → codeK P N c ⟨nn, slots (env s), base⟩ (hp s) fun x e1 h1 => match x with
      | .normal => ∃ s', μ s' < μ s ∧ I s' ∧ holds (env s') e1 ∧ hp s' = h1
      | x => K x e1 h1) : LoopK P N c e h K := by
  have key : ∀ (m : Nat) (s : σ) (e : Env), μ s = m → e.n = nn → I s → holds (env s) e → ∃ k x e1 h1, LoopD P N c k e (hp s) (X.toExit x) e1 h1 ∧ K x e1 h1 := by
    intro m
    induction m using Nat.strongRecOn with
    | _ m ih =>
      intro s e hm he hI hh
      obtain ⟨x, e1, h1, c1, hk⟩ := codeK_spec hM c hok (e := ⟨nn, slots (env s), e.get⟩) rfl (round s e.get hI)
      have c2 : CodeD P N c e (hp s) (X.toExit x) e1 h1 := c1.congr (e' := ⟨nn, slots (env s), e.get⟩) he.symm (fun t _ => by have := slots_get hh t; rw [he] at this; exact this)
      cases x with
      | normal =>
        obtain ⟨s', hlt, hI', hh', rfl⟩ := hk
        obtain ⟨k, x, e2, h2, l2, hk⟩ := ih (μ s') (hm ▸ hlt) s' e1 rfl (c2.1.2.trans he) hI' hh'
        exact ⟨k + 1, x, e2, h2, LoopD.more c2 l2, hk⟩
      | exit id => exact ⟨1, .exit id, e1, h1, LoopD.last c2 (by simp [X.toExit]), hk⟩
      | ret => exact ⟨1, .ret, e1, h1, LoopD.last c2 (by simp [X.toExit]), hk⟩
  obtain ⟨s, hI, hh, rfl⟩ := start
  obtain ⟨k, x, e1, h1, l1, hk⟩ := key (μ s) s e rfl hn hI hh
  exact ⟨x, e1, h1, CodeD.loop l1, hk⟩
/-! ### what the hard operations yield -/

/-- A variable of a type whose zero value is known. -/
theorem anew_alloc {P : Program} {ρ : Operand → Value} {t : TypeId} {z : Value} {d : Option Tmp} {ty : TypeId} {pos : String} {af : Array Edge} {g : Option (Nat × Bool)} {l : List Value} (hz : zeroOf P t = some z) (hc : z.cells.toList = l) (hp : l.all plain0 = true) :
    anew P ρ { dst := d, op := .alloc t, type := ty, pos := pos, after := af, guard := g } = some (.cells l false, fun g => .pointer (some ⟨g, 0, none⟩)) := by
  unfold anew
  simp only [hz]
  have : z.cells.all plain0 = true := by rw [← Array.all_toList, hc]; exact hp
  rw [if_pos this, hc]

/-- An aggregate built of parts. -/
theorem apure_build {P : Program} {ρ : Operand → Value} {t : TypeId} {z : Value} {ps : Array (Nat × Operand)} {d : Option Tmp} {ty : TypeId} {pos : String} {af : Array Edge} {g : Option (Nat × Bool)} {vs : List (Nat × Value)} {a : Array Value}
    (hz : zeroOf P t = some z) (hp : z.cells.all plain0 = true) (hb : P.built t vs = some a) (hv : ps.toList.map (fun p => (p.1, ρ p.2)) = vs) :
    apure P ρ { dst := d, op := .build t ps, type := ty, pos := pos, after := af, guard := g } = some (.agg a) := by
  unfold apure
  simp only [hz]
  rw [if_pos hp, hv, hb]
  rfl
end
end Go.Abs
