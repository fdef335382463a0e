/-
  AbsXp: parts of the proof.
-/
import Derived.Test.YteceaohcjmbfbaaGreatDoorSb28
import Derived.KernelRfl
namespace Go.Abs
def plainB:Value->Bool
 |.agg ⟨l⟩=>l.all plain0
 |v=>plain0 v
def flatB:Value->Bool
 |.tuple ⟨l⟩=>l.all plainB
 |v=>plainB v
theorem plainB_ok {v:Value} (h:plainB v=true):plain v=true:=by
 cases v <;> try exact h
 rename_i cs
 obtain⟨l⟩:=cs
 show Array.all _ _=true
 rw[<- Array.all_toList]
 exact h
theorem flatB_ok {v:Value} (h:flatB v=true):flatV v=true:=by
 have one:plainB v=true->plain v=true:=plainB_ok
 cases v with
 |tuple vs =>
  obtain⟨l⟩:=vs
  show Array.all _ _=true
  rw[<- Array.all_toList]
  have h:l.all plainB=true:=h
  exact List.all_eq_true.2 fun x m=>plainB_ok (List.all_eq_true.1 h x m)
 |_=>exact one h
theorem PureV.flatB {v:Value} (h:flatB v=true):PureV v:=PureV.flat (flatB_ok h)
def AllPure (l:List Value):Prop:=∀ x∈l,PureV x
theorem AllPure.nil:AllPure []:=fun _ m=>by cases m
theorem AllPure.cons {x:Value}{l:List Value} (a:PureV x) (b:AllPure l):AllPure (x::l):=fun y m=>by
 rcases List.mem_cons.1 m with rfl|m
 ·exact a
 ·exact b y m
theorem AllPure.append {a b:List Value} (p:AllPure a) (q:AllPure b):AllPure (a++b):=fun y m=>by
 rcases List.mem_append.1 m with m|m
 ·exact p y m
 ·exact q y m
theorem PureV.undef:PureV undef:=PureV.flat (by kernel_rfl)
theorem AllPure.getD {l:List Value} (p:AllPure l) (i:Nat):PureV (l.getD i Go.undef):=by
 rw[List.getD]
 cases e:l[i]? with
 |none=>exact PureV.undef
 |some v=>exact p v (List.mem_of_getElem? e)
theorem AllPure.getA {a:Array Value} (p:AllPure a.toList) (i:Nat):PureV (a.getD i Go.undef):=by
 rw[<- getD_list];exact p.getD i
theorem PureV.agg {l:List Value} (p:AllPure l):PureV (.agg ⟨l⟩):=fun ι ι' v' hf r=>by
 cases r with
 |agg _ a' h1 h2=>exact .agg _ a' h1 fun i=>p.getA (a:=⟨l⟩) i ι ι' _ hf (h2 i)
theorem PureV.tup {l:List Value} (p:AllPure l):PureV (.tuple ⟨l⟩):=fun ι ι' v' hf r=>by
 cases r with
 |tuple _ a' h1 h2=>exact .tuple _ a' h1 fun i=>p.getA (a:=⟨l⟩) i ι ι' _ hf (h2 i)
 |unit=>exact .unit
theorem PureV.func {f:Fn}{l m:List Value} (p:AllPure l) (q:AllPure m):PureV (.func f ⟨l⟩ ⟨m⟩):=fun ι ι' v' hf r=>by
 cases r with
 |func _ _ _ a' b' h1 h2 h3 h4=>exact .func f _ _ a' b' h1 h2 (fun i=>p.getA (a:=⟨l⟩) i ι ι' _ hf (h3 i)) (fun i=>q.getA (a:=⟨m⟩) i ι ι' _ hf (h4 i))
theorem PureV.fl {s:Nat}{es:List Value} (p:AllPure (flatC es)):PureV (FL s es):=fun ι ι' v' hf r=>by
 cases r with
 |flNil _=>exact .flNil s
 |flEmpty _ a cap=>exact .flEmpty s a cap
 |fl _ _ b o cap C h0 h1 h2 h3 h4 h5=>exact .fl s es b o cap C (hf _ _ h0) h1 h2 h3 h4 fun i hi=>p.getD i ι ι' _ hf (h5 i hi)
theorem PureV.fp {v:Value} (p:AllPure (cl v)):PureV (FP v):=fun ι ι' v' hf r=>by
 cases r with
 |fp _ b o C h0 h1 h2=>exact .fp v b o C (hf _ _ h0) h1 fun i hi=>p.getD i ι ι' _ hf (h2 i hi)
theorem PureV.fe:PureV FE:=fun ι ι' v' _ r=>by
 cases r with
 |fe a=>exact .fe a
theorem PureV.list {α:Type}{enc:α->Value}{s:Nat}{l:List α} (p:∀ a,AllPure (cl (enc a))):PureV (FL s (l.map enc)):=PureV.fl fun x m=>by
 simp only[flatC,List.mem_flatMap,List.mem_map] at m
 obtain⟨_,⟨a,_,rfl⟩,m⟩:=m
 exact p a x m
section
variable {P:Program} {N:Nat}
end
end Go.Abs
