/-
  Base: parts of the proof.
-/
import Derived.Test.YteanlacbmiiloaaGreatDoorLk23
import Derived.Test.YteanlacbmiiloaaGreatDoorProg
import Derived.KernelRfl
namespace Go.Proofs.YteanlacbmiiloaaGreatDoor
open Go.Abs
set_option maxRecDepth 100000
abbrev NG:Nat:=2
def u8 (a:Int):Value:=.int .u8 a
theorem hM:Tryz.prog.follows .mixedOrders=true:=by kernel_rfl
theorem allOk:Tryz.prog.funcs.toList.all (funcOk 2)=true:=by kernel_rfl
theorem hP (f:FuncId) (fn:Func) (_:([]:List FuncId).contains f=false) (h:Tryz.prog.funcs[f]?=some fn):funcOk 2 fn=true:=by
 have:=List.all_eq_true.1 allOk fn (by
  have:=Array.mem_of_getElem? h
  simpa using this)
 exact this
def i2 (a b:Int):List Value:=[.int .i64 a,.int .i64 b]
def fanins:List Value:=i2 0 0++i2 0 0++i2 0 0++i2 1 1++i2 1 1++i2 2 16++i2 2 16++i2 2 16++i2 2 16++i2 2 16++i2 2 16++i2 3 3++i2 2 2++i2 1 16++i2 1 1++i2 0 0
def vars:List AObj:=[.cells fanins true,.dead]
def isTrue:Option (Value×Heap)→Bool
 |some (.bool true,_)=>true
 |_=>false
theorem isTrue_iff {x:Option (Value×Heap)} (h:isTrue x=true):∃ h',x=some (.bool true,h'):=by
 unfold isTrue at h
 split at h
 ·exact⟨_,rfl⟩
 ·cases h
end Go.Proofs.YteanlacbmiiloaaGreatDoor
