/- Parts of the proof. -/
import Derived.Test.YtglgdkineobbeaaGreatDoorTn05
open Go.Op renaming equal->PE,equalIn->OG
namespace Go.Abs
theorem lx{P:Program}{ι:Inj}{ρ ρ':Operand->Value}{o:Oper}{v:Value}(hs:∀cs b,o.op≠.select cs b)(hρ:∀x∈o.op.operands,VRel ι (ρ x) (ρ' x))(h:bx P ρ o=some v) :
  ∃v',(∀w,(execOp ρ' o).run P w=.ok (.value v') w)/\VRel ι v v':=by
 unfold bx at h;split at h
 .rename_i hall;have same:∀x∈o.op.operands,ρ x=ρ' x:=λx hx=>((hρ x hx).cv ((MJ.1 hall) x hx)).symm;rw[execOp_congr o hs same] at h
  cases hq:cq P (execOp ρ' o) with
  |none=>simp[hq] at h
  |some nx =>
   cases nx with
   |value u =>
    simp only[hq] at h;split at h
    .rename_i hp
     cases h
     exact⟨_,λw=>vH hq w,VRel.aU hp⟩
    .cases h
   |_=>simp[hq] at h
 .cases h
def AX(b:Bool)(d:TypeDesc)(x y:Value):Prop :=
 (b=true/\∃e,(d=.slice e/\x=.slice none 0 0/\y=.slice none 0 0)\/(d=.pointer e/\x=.pointer none/\y=.pointer none))\/(b=false/\(
 (∃e a n c n2 c2,d=.slice e/\((x=.slice (some a) n c/\y=.slice none n2 c2)\/(x=.slice none n2 c2/\y=.slice (some a) n c))) \/
 (∃e a,d=.pointer e/\((x=.pointer (some a)/\y=.pointer none)\/(x=.pointer none/\y=.pointer (some a)))) \/
 (∃ps rs va f p q,d=.func ps rs va/\((x=.func f p q/\y=.nilFunc)\/(x=.nilFunc/\y=.func f p q))) \/
 (∃k e a,d=.map k e/\((x=.map (some a)/\y=.map none)\/(x=.map none/\y=.map (some a))))))
theorem oG{ι:Inj}{d:TypeDesc}{x y x' y':Value}{b:Bool}(hx:VRel ι x x')(hy:VRel ι y y')(h:nT d x y=some b):AX b d x' y':=by
 unfold nT at h;unfold AX
 split at h <;> simp only[LR,reduceCtorEq] at h
 all_goals subst h
 all_goals (cases hx <;> cases hy)
 all_goals first
  |exact .inl ⟨rfl,_,.inl ⟨rfl,rfl,rfl⟩⟩
  |exact .inl ⟨rfl,_,.inr ⟨rfl,rfl,rfl⟩⟩
  |exact absurd rfl ‹([]:List Value)≠[]›
  |skip
 all_goals refine .inr ⟨rfl,?_⟩
 all_goals first
  |exact .inl ⟨_,_,_,_,_,_,rfl,.inl ⟨rfl,rfl⟩⟩
  |exact .inl ⟨_,_,_,_,_,_,rfl,.inr ⟨rfl,rfl⟩⟩
  |exact .inr (.inl ⟨_,_,rfl,.inl ⟨rfl,rfl⟩⟩)
  |exact .inr (.inl ⟨_,_,rfl,.inr ⟨rfl,rfl⟩⟩)
  |exact .inr (.inr (.inl ⟨_,_,_,_,_,_,rfl,.inl ⟨rfl,rfl⟩⟩))
  |exact .inr (.inr (.inl ⟨_,_,_,_,_,_,rfl,.inr ⟨rfl,rfl⟩⟩))
  |exact .inr (.inr (.inr ⟨_,_,_,rfl,.inl ⟨rfl,rfl⟩⟩))
  |exact .inr (.inr (.inr ⟨_,_,_,rfl,.inr ⟨rfl,rfl⟩⟩))
theorem Gt{P:Program}{ι:Inj}{d:TypeDesc}{t:TypeId}{x y x' y':Value}{b:Bool}(hd:P.underlying t=some d)(hx:VRel ι x x')(hy:VRel ι y y')(h:nT d x y=some b)(n:Nat)(w:World) :
  (OG (n+1) t x' y').run P w=.ok b w:=by
 have q:=oG hx hy h
 rcases q with⟨rfl,_,⟨rfl,rfl,rfl⟩|⟨rfl,rfl,rfl⟩⟩|⟨rfl,⟨_,_,_,_,_,_,rfl,⟨rfl,rfl⟩|⟨rfl,rfl⟩⟩|⟨_,_,rfl,⟨rfl,rfl⟩|⟨rfl,rfl⟩⟩|⟨_,_,_,_,_,_,rfl,⟨rfl,rfl⟩|⟨rfl,rfl⟩⟩|⟨_,_,_,rfl,⟨rfl,rfl⟩|⟨rfl,rfl⟩⟩⟩
 all_goals simp[OG,ax hd]
theorem A7{P:Program}{ι:Inj}{d:TypeDesc}{x y x' y':Value}{b:Bool}(hx:VRel ι x x')(hy:VRel ι y y')(h:nT d x y=some b)(op:BinOp)(t:TypeId)(u z:Operand)(w:World) :
  (eqGuard op t u z x' y').run P w=.ok () w:=by
 have q:=oG hx hy h;unfold eqGuard
 rcases q with⟨rfl,_,⟨rfl,rfl,rfl⟩|⟨rfl,rfl,rfl⟩⟩|⟨rfl,⟨_,_,_,_,_,_,rfl,⟨rfl,rfl⟩|⟨rfl,rfl⟩⟩|⟨_,_,rfl,⟨rfl,rfl⟩|⟨rfl,rfl⟩⟩|⟨_,_,_,_,_,_,rfl,⟨rfl,rfl⟩|⟨rfl,rfl⟩⟩|⟨_,_,_,rfl,⟨rfl,rfl⟩|⟨rfl,rfl⟩⟩⟩
 all_goals simp
theorem H7{ι:Inj}{d:TypeDesc}{x y x' y':Value}{b:Bool}(hx:VRel ι x x')(hy:VRel ι y y')(h:nT d x y=some b)(t:TypeId) :
  (binOp .eql t x' y'=do pure (.bool (<- PE t x' y')))/\(binOp .neq t x' y'=do pure (.bool (!(<- PE t x' y')))):=by
 have q:=oG hx hy h
 rcases q with⟨rfl,_,⟨rfl,rfl,rfl⟩|⟨rfl,rfl,rfl⟩⟩|⟨rfl,⟨_,_,_,_,_,_,rfl,⟨rfl,rfl⟩|⟨rfl,rfl⟩⟩|⟨_,_,rfl,⟨rfl,rfl⟩|⟨rfl,rfl⟩⟩|⟨_,_,_,_,_,_,rfl,⟨rfl,rfl⟩|⟨rfl,rfl⟩⟩|⟨_,_,_,rfl,⟨rfl,rfl⟩|⟨rfl,rfl⟩⟩⟩
 all_goals exact⟨rfl,rfl⟩
theorem uw{P:Program}{ι:Inj}{d:TypeDesc}{t:TypeId}{x y x' y':Value}{b:Bool}(hd:P.underlying t=some d)(hx:VRel ι x x')(hy:VRel ι y y')(h:nT d x y=some b)(u z:Operand)(w:World) :
  ((do eqGuard .eql t u z x' y';binOp .eql t x' y'):Sem Value).run P w=.ok (.bool b) w/\((do eqGuard .neq t u z x' y';binOp .neq t x' y'):Sem Value).run P w=.ok (.bool !b) w:=by
 have h1:=Gt hd hx hy h 9999 w;have h1':(PE t x' y').run P w=.ok b w:=h1;obtain⟨h2,h3⟩:=H7 hx hy h t;rw[h2,h3];simp[A7 (P:=P) hx hy h,h1']
end Go.Abs
