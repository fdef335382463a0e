/-
  AbsXm, AbsXn: parts of the proof.
-/
import Derived.Test.YtgiedjgdlckahaaGreatDoorTk40
namespace Go.Abs
open Go.ChangeMaps (setBlock)
section
variable {P:Program} {N:Nat}
def OutM (N:Nat) (ι:Inj) (n:Nat) (h:Heap) (w:World) (K:X->Env->Heap->Prop) (x:Exit) (a':Act) (w':World):Prop :=
 ∃ (y:X) (e1:Env) (h1:Heap),x=y.toExit/\K y e1 h1/\e1.n=n/\h.size<=h1.size/\∃ ι',ERel ι' e1 a'/\HRel N ι' h1 w'/\Step ι h w ι' h1 w'
structure CodeM (P:Program) (N:Nat) (c:Code) (e:Env) (h:Heap) (K:X->Env->Heap->Prop):Prop where
 spec:P.follows .mixedOrders=true->codeOk N e.n c=true->∀ ι w a,HRel N ι h w->ERel ι e a->c.wp P (OutM N ι e.n h w K) a w
end
end Go.Abs

namespace Go.Abs
theorem rR:∀ (n:Nat) (l:List Nat),l.Nodup->(∀ i∈l,i<n)->l.length<=n
 |0,l,_,h=>by
  cases l with
  |nil=>simp
  |cons a l=>exact absurd (h a (.head _)) (Nat.not_lt_zero _)
 |n+1,l,nd,h=>by
  have h1:=rR n (l.erase n) (nd.erase n) (fun i hi=>by
   have h2:=h i (List.mem_of_mem_erase hi)
   have h3:i≠n:=fun e=>by subst e;exact (List.Nodup.not_mem_erase nd) hi
   omega)
  rw[List.length_erase] at h1
  split at h1 <;> omega
section
variable {P:Program} {N:Nat}
end
section
variable {P:Program} {N:Nat} {B:List AObj} {h0 h:Heap} {L:List Slot} {ρ:Operand->Value} {d:Option Tmp} {ty:TypeId} {pos:String} {af:Array Edge} {gd:Option (Nat×Bool)}
variable {κ ν:Type} {ek:κ->Value} {ev:ν->Value}
theorem JN {α:Type}{enc:α->Value}{z:α}{h:Heap} (n:Nat) (h1:cl (enc z)=[enc z]) (le:VLe h (.slice none 0 0) (enc z)):LLe h (flatC ((List.replicate n ()).map fun _=>Value.slice none 0 0)) (flatC ((List.replicate n z).map enc)):=by
 have e1:∀ v:Value,cl v=[v]->flatC (List.replicate n v)=List.replicate n v:=fun v hv=>by
  induction n with
  |zero=>rfl
  |succ n ih=>rw[List.replicate_succ,show flatC (v::List.replicate n v)=cl v++flatC (List.replicate n v) from rfl,hv,ih];rfl
 rw[List.map_replicate,List.map_replicate,e1 _ rfl,e1 _ h1];refine⟨by simp,fun i=>?_⟩;simp only[List.getD,List.getElem?_replicate];split
 ·exact le
 ·exact VLe.refl _ _
theorem Je {α:Type} (h:Heap) (n s:Nat) (enc:α->Value):LLe h (flatC ((List.replicate n ()).map fun _=>Value.slice none 0 0)) (flatC ((List.replicate n ([]:List α)).map (ah s enc))):=JN n rfl (VLe.nil _ _)
end
end Go.Abs
