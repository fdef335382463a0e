/-
  AbsS: parts of the proof.
-/
import Derived.Test.YtobphhjcadjfjaaDoorSg20
namespace Go.Abs
def mC (P:Program) (f:FuncId) (vs:Array Value) (_:Heap):Option Value :=
 match P.funcs[f]? with
 |none=>none
 |some fn =>
  match fn.body with
  |some _=>none
  |none =>
   match vs.all plain with
   |false=>none
   |true =>
    match cR P (callFunc f vs) with
    |some (.value v)=>match plain v with
     |true=>some v
     |false=>none
    |_=>none
theorem iQ {P:Program}{N:Nat} (f:FuncId) (vs:Array Value) (h:Heap) (v:Value) (e:mC P f vs h=some v):CallD P N f vs h v h:=by
 unfold mC at e
 split at e
 ·cases e
 ·split at e
  ·cases e
  ·split at e
   ·cases e
   ·rename_i hall
    split at e
    ·rename_i v0 hp
     split at e
     ·rename_i hv
      simp only[Option.some.injEq] at e
      subst e
      refine⟨Nat.le_refl _,fun ι w vs' _ r=>.inr ⟨v0,?_,VRel.aH hv,rfl⟩⟩
      have:vs'=vs:=by
       apply Array.ext r.1.symm
       intro i h1 h2
       have q:=r.2 i
       have hp':plain (vs.getD i undef)=true:=by
        rw[Array.getD_eq_getD_getElem?,Array.getElem?_eq_getElem h2]
        exact (Array.all_eq_true_iff_forall_mem.1 hall) _ (Array.getElem_mem h2)
       have:=q.bH hp'
       rw[Array.getD_eq_getD_getElem?,Array.getD_eq_getD_getElem?,Array.getElem?_eq_getElem h1,Array.getElem?_eq_getElem h2] at this
       simpa using this
      rw[this]
      exact pE hp w
     ·cases e
    ·cases e
end Go.Abs
