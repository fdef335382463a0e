/-
  Bits: parts of the proof.
-/
import Derived.Test.YteanlacbmiiloaaGreatDoorLk32
namespace Go.Abs
variable {P:Program} {ρ:Operand→Value} {d:Option Tmp} {ty:TypeId} {pos:String} {af:Array Edge} {gd:Option (Nat×Bool)}
theorem shiftK {op:BinOp}{t yt:TypeId}{x y:Operand}{k:IntKind}{a b c:Int} (hop:op=.shl∨op=.shr) (hx:ρ x=.int k a) (hy:ρ y=.int k b) (hr:pureOf P (Op.shift op k a k b)=some (.int k c)) :
  apure P ρ { dst:=d,op:=.binOp op t x y yt,type:=ty,pos:=pos,after:=af,guard:=gd }=some (.int k c):=by
 have hp:(Op.binOp op t x y yt).operands.all (fun x=>plain (ρ x))=true:=by simp[Op.operands,hx,hy,plain,plain0]
 have hpl:plain (.int k c)=true:=rfl
 have this:pureOf P (execOp ρ { dst:=d,op:=.binOp op t x y yt,type:=ty,pos:=pos,after:=af,guard:=gd })=some (.value (.int k c)):=by
  rcases hop with rfl|rfl <;>
  ·simp only[execOp,pureOf_bind,hx,hy,binOp,eqGuard]
   simp only[hr]
   rfl
 have that:fallback P ρ { dst:=d,op:=.binOp op t x y yt,type:=ty,pos:=pos,after:=af,guard:=gd }=some (.int k c):=by
  unfold fallback
  rw[if_pos hp,this]
  simp only[hpl,if_true]
 rcases hop with rfl|rfl <;>
 ·unfold apure
  simp only[hx,hy,quick,intBin,if_pos]
  exact that
theorem shl_small:∀ n:Nat,n≤16→pureOf P (Op.shift .shl .i64 1 .i64 (Int.ofNat n))=some (.int .i64 (Int.ofNat (2 ^ n))):=by
 intro n hn
 have:n=0∨n=1∨n=2∨n=3∨n=4∨n=5∨n=6∨n=7∨n=8∨n=9∨n=10∨n=11∨n=12∨n=13∨n=14∨n=15∨n=16:=by omega
 rcases this with rfl|rfl|rfl|rfl|rfl|rfl|rfl|rfl|rfl|rfl|rfl|rfl|rfl|rfl|rfl|rfl|rfl <;> rfl
theorem shr_small (m j:Nat) (hj:j≤63):pureOf P (Op.shift .shr .i64 (Int.ofNat m) .i64 (Int.ofNat j))=some (.int .i64 (Int.ofNat (m/2 ^ j))):=by
 unfold Op.shift
 have h0:¬ (Int.ofNat j<0):=by simp only[Int.ofNat_eq_natCast];omega
 rw[if_neg h0]
 have h1:min (Int.ofNat j).toNat IntKind.i64.bits=j:=by
  show min j 64=j
  omega
 simp only[h1]
 show some (Value.int .i64 ((Int.ofNat m).fdiv (2 ^ j)))=_
 rw[Int.fdiv_eq_ediv_of_nonneg _ (by exact Int.pow_nonneg (by decide))]
 congr 2
theorem and_one (m:Nat) (hm:m<2 ^ 62):pureOf P (Op.intBits .and .i64 (Int.ofNat m) 1)=some (.int .i64 (Int.ofNat (m%2))):=by
 unfold Op.intBits
 show some (Value.int .i64 (IntKind.i64.wrap ((BitVec.ofInt 64 (Int.ofNat m) &&& BitVec.ofInt 64 1).toNat:Nat)))=_
 have h1:(BitVec.ofInt 64 (Int.ofNat m) &&& BitVec.ofInt 64 1).toNat=m%2:=by
  rw[BitVec.toNat_and]
  have e1:(BitVec.ofInt 64 (Int.ofNat m)).toNat=m:=by
   simp only[Int.ofNat_eq_natCast,BitVec.ofInt_natCast,BitVec.toNat_ofNat]
   omega
  have e2:(BitVec.ofInt 64 1).toNat=1:=rfl
  rw[e1,e2,Nat.and_one_is_mod]
 rw[h1]
 rcases Nat.mod_two_eq_zero_or_one m with e|e <;> rw[e] <;> rfl
end Go.Abs
