/-
  AbsXa: parts of the proof.
-/
import Derived.Test.YtobphhjcadjfjaaDoorSg39
namespace Go.Abs
section
variable {P:Program} {ρ:Operand->Value} {d:Option Tmp} {ty:TypeId} {pos:String} {af:Array Edge} {gd:Option (Nat×Bool)}
theorem AO {t yt:TypeId}{x y:Operand}{a b:Int}{j:Nat} (hx:ρ x=.int .i64 a) (hy:ρ y=.int .i64 b) (hz:a+b=Int.ofNat j) (hj:j<2 ^ 63) :
  an P ρ { dst:=d,op:=.binOp .add t x y yt,type:=ty,pos:=pos,after:=af,guard:=gd }=some (.int .i64 (Int.ofNat j)):=by
 have h1:a+b=(j:Int):=hz
 have:=AT (P:=P) (d:=d) (ty:=ty) (pos:=pos) (af:=af) (gd:=gd) (t:=t) (yt:=yt) hx hy (by omega) (by omega)
 rw[this,hz]
end
section
variable {B:List AObj} {h0 h:Heap} {S T:List Slot} {p:Slot} {j:Nat}
theorem Own.zO (O:Own B h0 (S++T) h) (hp:T[j]?=some p) (o:AObj):Own B h0 (p::(S++T.set j (none,o))) h:=by
 obtain⟨e1,e2⟩:=fN hp (none,o)
 rw[e2]
 rw[e1,<- List.append_assoc] at O
 have O2:=O.perm List.perm_middle
 have:=Own.nO (X:=p::(S++T.take j)) (Z:=T.drop (j+1)) (by simpa using O2) o
 simpa[List.append_assoc] using this
theorem Own.AW {o:AObj} (O:Own B h0 (p::(S++T.set j (none,o))) h) (hj:j<T.length):Own B h0 (S++T.set j p) h:=by
 have ht:=List.getElem?_eq_getElem hj
 rw[(fN ht (none,o)).2] at O
 rw[(fN ht p).2,<- List.append_assoc]
 refine Own.perm (L:=p::(S++T.take j++T.drop (j+1))) ?_ List.perm_middle.symm
 have:Own B h0 ((p::(S++T.take j))++(none,o)::T.drop (j+1)) h:=by simpa[List.append_assoc] using O
 simpa using this.wZ
inductive Rw where
 |own (a:Option Nat) (r:List Nat)
 |cut (a:Option Nat) (r:List Nat)
 |fz (r:List Nat)
def Rw.val:Rw->List Nat
 |.own _ r=>r
 |.cut _ r=>r
 |.fz r=>r
def dz:Rw->Value
 |.own a r=>ae 1 a (r.map i64)
 |.cut a r=>ju a (r.map i64)
 |.fz r=>aJ 1 i64 r
def ep:Rw->Slot
 |.own a r=>(a,.cells (flatC (r.map i64)) false)
 |.cut a r=>(a,.cells (flatC (r.map i64)) false)
 |.fz _=>(none,.dead)
theorem ib (x:Rw):cl (dz x)=[dz x]:=by cases x <;> rfl
theorem xm (X:List Rw):flatC (X.map dz)=X.map dz:=by
 induction X with
 |nil=>rfl
 |cons x X ih=>rw[List.map_cons,dU,ih,ib];rfl
theorem VLe.zu {h:Heap}{g:Nat}{r:List Nat} (hg:h.get g=some (.cells (flatC (r.map i64)) true)):VLe h (ju (some g) (r.map i64)) (aJ 1 i64 r):=by
 have hs:∀ e∈r.map i64,(cl e).length=1:=fun e m=>by
  obtain⟨x,_,rfl⟩:=List.mem_map.1 m
  rfl
 have hl:=bF hs
 exact VLe.toC (VLe.fl (off:=0) hg rfl hs (by rw[hl];omega) (by rw[List.drop_zero,List.take_of_length_le (by rw[hl];exact Nat.le_refl _)];exact LLe.refl _ _)) rfl
theorem Own.fst (O:Own B h0 (S++T) h):Own B h0 S h:=O.sub (fun _ m=>List.mem_append_left _ m) (List.pairwise_append.1 O.apart).1
theorem Own.newRow {X:List Rw} (O:Own B h0 (S++X.map ep) h):Own B h0 (S++(X++[Rw.own none []]).map ep) h:=by
 have:=Own.nO (X:=S++X.map ep) (Z:=[]) (by simpa using O) (.cells (flatC (([]:List Nat).map i64)) false)
 simpa[ep,List.append_assoc] using this
theorem Own.uV {X:List Rw}{a:Option Nat}{r:List Nat} (O:Own B h0 (S++X.map ep) h) (hx:X[j]?=some (.own a r)):Own B h0 ((a,.cells (flatC (r.map i64)) false)::(S++(X.set j (.fz r)).map ep)) h:=by
 have:=O.zO (j:=j) (p:=ep (.own a r)) (by rw[List.getElem?_map,hx];rfl) .dead
 rw[List.map_set]
 exact this
theorem Own.putRow {X:List Rw}{x:Rw}{a:Option Nat}{r r':List Nat} (O:Own B h0 ((a,.cells (flatC (r'.map i64)) false)::(S++(X.set j (.fz r)).map ep)) h) (hx:X[j]?=some x):Own B h0 (S++(X.set j (.own a r')).map ep) h:=by
 rw[List.map_set] at O ⊢
 exact Own.AW (p:=ep (.own a r')) (o:=.dead) O (by rw[List.length_map];exact ag hx)
end
end Go.Abs
