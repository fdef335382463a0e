/-
  AbsZ: parts of the proof.
-/
import Derived.Test.YtobphhjcadjfjaaDoorSg29
import Derived.Laws.Strings
namespace Go.Abs
variable {P:Program} {ρ:Operand->Value} {d:Option Tmp} {ty:TypeId} {pos:String} {af:Array Edge} {gd:Option (Nat×Bool)} {h:Heap}
theorem qj {z:Value}{s:Nat} (hs:z.cells.size=s) (hpos:0<s) (n:Nat):(eP z.cells (n*s)).toList=flatC (List.replicate n z):=by
 have hz:∀ x∈List.replicate n z,(cl x).length=s:=fun x hx=>by
  rw[(List.mem_replicate.1 hx).2];simpa[cl] using hs
 apply List.ext_getElem?
 intro i
 rw[flatC,gC hpos _ hz i]
 by_cases hi:i<n*s
 ·have h1:i/s<n:=by rw[Nat.div_lt_iff_lt_mul hpos];exact hi
  have h2:i%s<z.cells.size:=by rw[hs];exact Nat.mod_lt _ hpos
  rw[List.getElem?_replicate,if_pos h1,Option.bind_some]
  simp only[eP,Array.toList_map,List.getElem?_map,Array.toList_range,List.getElem?_range hi,Option.map_some,cl,hs]
  rw[getElem!_pos z.cells (i%s) h2,Array.getElem?_toList,Array.getElem?_eq_getElem h2]
 ·have h1:¬ i/s<n:=by rw[Nat.div_lt_iff_lt_mul hpos];exact hi
  rw[List.getElem?_replicate,if_neg h1,Option.bind_none,List.getElem?_eq_none]
  rw[Array.length_toList,mT];omega
theorem vA {t e:TypeId}{x y:Operand}{n b s:Nat}{z:Value} (hu:P.underlying t=some (.slice e)) (hs:aL P e=some s) (hb:iS P e=some b) (hz:zeroOf P e=some z) (hz1:z.cells.size=s) (hpos:0<s) (hp:z.cells.all aF=true)
  (hx:ρ x=.int .i64 (Int.ofNat n)) (hy:ρ y=.int .i64 (Int.ofNat n)) (hn:b*n<=2 ^ 48) (hn2:n<2 ^ 63) :
  anew P ρ { dst:=d,op:=.makeSlice t x y,type:=ty,pos:=pos,after:=af,guard:=gd }=some (.cells (flatC (List.replicate n z)) false,fun g=>.slice (some ⟨g,0,none⟩) n n):=by
 unfold anew
 simp only[hu,hx,hy,hs,hb,hz]
 have c:0<=Int.ofNat n/\Int.ofNat n<=Int.ofNat n/\(b:Int)*Int.ofNat n<=2 ^ 48/\Int.ofNat n<2 ^ 63/\z.cells.all aF=true:=by
  refine⟨Int.natCast_nonneg n,Int.le_refl _,?_,?_,hp⟩
  ·have:((b*n:Nat):Int)<=((2 ^ 48:Nat):Int):=Int.ofNat_le.2 hn
   simpa using this
  ·have:((n:Nat):Int)<((2 ^ 63:Nat):Int):=Int.ofNat_lt.2 hn2
   simpa using this
 rw[if_pos c]
 have:(Int.ofNat n).toNat=n:=rfl
 rw[this,qj hz1 hpos]
theorem qb {t yt:TypeId}{x y:Operand}{k:IntKind}{a b:Nat} (hx:ρ x=.int k (Int.ofNat a)) (hy:ρ y=.int k (Int.ofNat b)) (hb:0<b) :
  an P ρ { dst:=d,op:=.binOp .rem t x y yt,type:=ty,pos:=pos,after:=af,guard:=gd }=some (.int k (Int.ofNat (a%b))):=by
 have hp:(Op.binOp .rem t x y yt).operands.all (fun x=>plain (ρ x))=true:=by simp[Op.operands,hx,hy,plain,aF]
 have hpl:plain (.int k (Int.ofNat (a%b)))=true:=rfl
 have this:cR P (execOp ρ { dst:=d,op:=.binOp .rem t x y yt,type:=ty,pos:=pos,after:=af,guard:=gd })=some (.value (.int k (Int.ofNat (a%b)))):=by
  have hne:¬ Int.ofNat b=0:=by simp only[Int.ofNat_eq_natCast];omega
  simp only[execOp,jz,hx,hy,binOp,eqGuard,ne_eq,not_true_eq_false,if_false,Op.intDiv,hne]
  rfl
 have that:bo P ρ { dst:=d,op:=.binOp .rem t x y yt,type:=ty,pos:=pos,after:=af,guard:=gd }=some (.int k (Int.ofNat (a%b))):=by
  unfold bo
  rw[if_pos hp,this]
  simp only[hpl,if_true]
 unfold an
 simp only[hx,hy,quick,fj,if_pos]
 exact that
theorem mJ {t yt:TypeId}{x y:Operand}{a b:Nat} (hx:ρ x=.int .u8 (Int.ofNat a)) (hy:ρ y=.int .u8 (Int.ofNat b)) (hb:a+b<256) :
  an P ρ { dst:=d,op:=.binOp .add t x y yt,type:=ty,pos:=pos,after:=af,guard:=gd }=some (.int .u8 (Int.ofNat (a+b))):=by
 refine tM hx hy ?_
 simp only[fj,Option.some.injEq,Value.int.injEq,true_and]
 rw[IntWalk.u8_in _ (by simp only[Int.ofNat_eq_natCast];omega)]
 rfl
end Go.Abs
