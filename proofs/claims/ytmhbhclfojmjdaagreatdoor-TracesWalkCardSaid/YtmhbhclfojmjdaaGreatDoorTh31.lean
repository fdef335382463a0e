/-
  Logic, Logic3, Door: parts of the proof.
-/
import Derived.Test.YtmhbhclfojmjdaaGreatDoorTh30
import Derived.Test.YtmhbhclfojmjdaaGreatDoorTie
import Derived.LaidMore
import Derived.Stop.Joined
import Derived.ChangeAt
import Derived.SevenTiedAt
namespace Go.Proofs.YtmhbhclfojmjdaaGreatDoor
open Go.Abs
set_option maxRecDepth 100000
def bare:List AObj:=List.replicate NG .dead
noncomputable def runAt (l:List AObj) (f:FuncId) (vs:Array Value):Option Value:=(runFn Tryz.prog [] (orcExt Tryz.prog) 60 f vs (heapOf l)).map (·.1)
theorem of_runAt {l:List AObj}{f:FuncId}{vs:Array Value}{v:Value} (e:runAt l f vs=some v):∃ h',CallD Tryz.prog NG f vs (heapOf l) v h':=by
 unfold runAt at e
 cases q:runFn Tryz.prog [] (orcExt Tryz.prog) 60 f vs (heapOf l) with
 |none=>simp[q] at e
 |some r =>
  obtain⟨v',h'⟩:=r
  simp[q] at e
  subst e
  exact⟨h',(runFn_sound hM hP (fun f vs h v e=>orcExt_sound f vs h v e) 60 _ _ _ _ _ q).1⟩
theorem bears_bare {h:Heap} (hs:NG<=h.size):Bears NG (heapOf bare) h:=by
 refine⟨rfl,hs,fun g o e=>.inl ?_⟩
 rw[heapOf_get] at e
 have:=List.mem_of_getElem? e
 simp only[bare,List.mem_replicate] at this
 exact this.2
theorem of_bare {f:FuncId}{vs:Array Value}{v:Value}{h:Heap} (e:runAt bare f vs=some v) (h1:vs.all plain=true) (h2:flatV v=true):CallD Tryz.prog NG f vs h v h:=by
 obtain⟨h',c⟩:=of_runAt e
 exact CallD.sized fun hs=>c.lift h1 h2 (bears_bare hs)
variable {h:Heap}
def Vars (h:Heap):Prop:=h.get 0=some (.cells fanins true)
theorem Vars.ext {h h1:Heap} (v:Vars h) (e:Ext h h1):Vars h1:=e.get v
theorem vars_get {g:Nat}{o:AObj} (e:vars[g]?=some o):o=.dead\/(g=0/\o=.cells fanins true):=by
 match g,e with
 |0,e=>simp only[vars,List.getElem?_cons_zero,Option.some.injEq] at e;exact .inr ⟨rfl,e.symm⟩
 |1,e=>simp only[vars,List.getElem?_cons_succ,List.getElem?_cons_zero,Option.some.injEq] at e;exact .inl e.symm
theorem bears_vars {h:Heap} (hs:NG<=h.size) (v:Vars h):Bears NG (heapOf vars) h:=by
 refine⟨rfl,hs,fun g o e=>?_⟩
 rw[heapOf_get] at e
 rcases vars_get e with rfl|⟨rfl,rfl⟩
 ·exact .inl rfl
 ·exact .inr ⟨_,rfl,v,by kernel_rfl⟩
theorem of_vars {f:FuncId}{vs:Array Value}{v:Value}{h:Heap} (hv:Vars h) (e:runAt vars f vs=some v) (h1:vs.all plain=true) (h2:flatV v=true):CallD Tryz.prog NG f vs h v h:=by
 obtain⟨h',c⟩:=of_runAt e
 exact CallD.sized fun hs=>c.lift h1 h2 (bears_vars hs hv)
theorem kinds {k:Int} (h:0<=k):k=0\/k=1\/k=2\/k=3\/k=4\/k=5\/k=6\/k=7\/k=8\/k=9\/k=10\/k=11\/k=12\/k=13\/k=14\/k=15\/∃ n:Nat,k=Int.ofNat (n+16):=by
 by_cases c:k<16
 ·omega
 ·iterate 16 refine .inr ?_
  exact⟨(k-16).toNat,by simp only[Int.ofNat_eq_natCast];omega⟩
def loL (k:Int):Int:=if k<16 then ([0,0,0,1,1,2,2,2,2,2,2,3,2,1,1,0]:List Int).getD k.toNat 0 else 0
def hiL (k:Int):Int:=if k<16 then ([0,0,0,1,1,16,16,16,16,16,16,3,2,16,1,0]:List Int).getD k.toNat 0 else -1
theorem loL_big (n:Nat):loL (Int.ofNat (n+16))=0:=by unfold loL;rw[if_neg (by simp only[Int.ofNat_eq_natCast];omega)]
theorem hiL_big (n:Nat):hiL (Int.ofNat (n+16)) = -1:=by unfold hiL;rw[if_neg (by simp only[Int.ofNat_eq_natCast];omega)]
theorem fanin_ok {k:Int} (hk:0<=k) (hk2:k<256) {h:Heap} (hv:Vars h):CallD Tryz.prog NG 39 #[u8 k] h (.tuple #[.int .i64 (loL k),.int .i64 (hiL k)]) h:=by
 rcases kinds hk with rfl|rfl|rfl|rfl|rfl|rfl|rfl|rfl|rfl|rfl|rfl|rfl|rfl|rfl|rfl|rfl|⟨n,rfl⟩
 iterate 16 exact of_vars hv (by kernel_rfl) (by kernel_rfl) (by kernel_rfl)
 rw[loL_big,hiL_big]
 refine fnP hM Tryz.func39 rfl (hP _ _ rfl Tryz.func39) (lbE rfl) (by kernel_rfl) ?_;(conv=>whnf);repeat(first|apply Cs|apply Rs|apply Rx);conv=>whnf
 refine⟨_,convIntK rfl rfl rfl (IntWalk.i64_in _ (by omega)),?_⟩
 ((conv=>whnf);repeat(first|apply Cs|apply Rs|apply Rx);conv=>whnf)
 refine⟨true,rfl,fun _=>?_,fun hc=>by cases hc⟩
 ((conv=>whnf);repeat(first|apply Cs|apply Rs|apply Rx);conv=>whnf)
 exact⟨rfl,Ext.refl _⟩
variable {h:Heap} {a:Option Addr} {n cap:Nat} {l:List Int}
theorem lt_of_ltI' {a b:Int} (h:ltI a b=true):a<b:=by rw[ltI_eq] at h;simpa using h
theorem ge_of_ltI' {a b:Int} (h:ltI a b=false):b<=a:=by rw[ltI_eq] at h;simpa using h
end Go.Proofs.YtmhbhclfojmjdaaGreatDoor

namespace Go.Proofs.YtmhbhclfojmjdaaGreatDoor
open Go.Abs Go.ChangeShapes Go.RowKit Go.ChangeAt
set_option maxRecDepth 100000
theorem own:ownKnob Tryz.prog.godebug=none:=by kernel_rfl
theorem laidOut:laidOutB Tryz.prog=true:=by kernel_rfl
def laid : List (String × DataW Unit) := [("probecard/logic.fanins", Rows.laid_probecard_logic_fanins)]
theorem gFanins : Tryz.prog.globalNamed "probecard/logic.fanins" = some 0 := by kernel_rfl
theorem door_met (os:Os) (args:Array Value):laidMetH Tryz.prog laid ((World.doorLaid Tryz.prog 400 os).forCall (fun _ _=>0) ⟨#[],args,[]⟩).memory :=
 laidMetH_of_parts3 (fuel:=8) (laidMet_of_run' 8 (by kernel_rfl) (by kernel_rfl)) (by kernel_rfl) (by kernel_rfl)
theorem arrFanins:arrB Tryz.prog 5 (((Tryz.prog.globals[0]?).map (·.type)).getD 0)=true:=by kernel_rfl
theorem flatFanins:flat (H:=Unit) Rows.laid_probecard_logic_fanins=some fanins:=by kernel_rfl
theorem of_laid {W:World} (h:laidMetH Tryz.prog laid W) (i:Nat):W.cell? ⟨0,i,none⟩=fanins[i]?:=by
 rw[MakeChecks.laidMetH_plain _ _ _ (by kernel_rfl)] at h
 obtain⟨ps,⟨g0,t0,cs0,f0,p0,q0,hg0,ht0,hv0,hd0,_⟩,_,_⟩:=h
 have ht:t0=(((Tryz.prog.globals[0]?).map (·.type)).getD 0):=by
  obtain rfl:=Option.some.inj (gFanins.symm.trans hg0)
  rw[ht0];rfl
 subst ht
 obtain rfl:=Option.some.inj (gFanins.symm.trans hg0)
 exact laid_cells hg0 hv0 hd0 arrFanins flatFanins i
theorem block {W:World} (h:W.ShapedOpen Tryz.prog) (g:Nat) (hg:g<Tryz.prog.globals.size) (hb:(((begin Tryz.prog (fun _ _=>0) default).world.heap[g]?).bind Obj.row?).isSome=true):∃ C ty fr,W.heap[g]?=some (.cells C ty fr):=by
 obtain⟨⟨zero,t⟩,e⟩:=Option.isSome_iff_exists.1 hb
 obtain⟨cs,h1,_⟩:=h.1 g zero t hg e
 exact⟨cs,t,_,h1⟩
theorem start {W:World} (hsh:W.ShapedOpen Tryz.prog) (hl:laidMetH Tryz.prog laid W):∃ l0 l1:Abs.Loc,HRel 2 (startInj [l0,l1] W) (heapOf vars) W:=by
 obtain⟨C0,ty0,fr0,h0⟩:=block hsh 0 (of_decide_eq_true (by kernel_rfl)) (by kernel_rfl)
 obtain⟨C1,ty1,fr1,h1⟩:=block hsh 1 (of_decide_eq_true (by kernel_rfl)) (by kernel_rfl)
 have lt:∀ (g:Nat) (C:Array Value) (ty:TypeId) (fr:Nat×Nat),W.heap[g]?=some (.cells C ty fr)->g<W.heap.size:=fun g C ty fr e=>(Array.getElem?_eq_some_iff.1 e).1
 refine⟨⟨0,0,C0.size⟩,⟨1,0,C1.size⟩,HRel.start vars [_,_] rfl ?_ ?_ ?_ ?_⟩
 ·intro g hg
  match g,hg with
  |0,_=>exact⟨_,rfl,rfl,rfl⟩
  |1,_=>exact⟨_,rfl,rfl,rfl⟩
 ·intro l hl
  simp only[List.mem_cons,List.not_mem_nil,or_false] at hl
  rcases hl with rfl|rfl
  ·exact lt _ _ _ _ h0
  ·exact lt _ _ _ _ h1
 ·intro g l o e1 e2
  match g,e1,e2 with
  |0,e1,e2 =>
   simp only[List.getElem?_cons_zero,Option.some.injEq] at e1
   simp only[vars,List.getElem?_cons_zero,Option.some.injEq] at e2
   subst e1 e2
   exact ORel.of_cells h0 (fun i _=>of_laid hl i) (by kernel_rfl)
  |1,e1,e2 =>
   simp only[vars,List.getElem?_cons_zero,List.getElem?_cons_succ,Option.some.injEq] at e2
   subst e2
   trivial
  |g+2,e1,e2=>simp at e1
 ·intro o ho
  simp only[vars,List.mem_cons,List.not_mem_nil,or_false] at ho
  rcases ho with rfl|rfl <;> rfl
theorem law_run {H:Type}{enc:TypeId×Value->H}{f:FuncId}{fn:Func}{c:Code}{d:Nat} (L:List (Sh×Bool)) (hfn:Tryz.prog.funcs[f]?=some fn) (hb:fn.body=some c) (hp:paramsOk Tryz.prog d fn.params.toList L)
  (call:∀ x:DenL L,wfL L x->FnV Tryz.prog NG vars f ⟨argL L x⟩ (.bool true))
  (W:World) (base:Nat) (args:Array Value) (hsh:W.ShapedOpen Tryz.prog) (_:args.size=fn.params.size)
  (hval:∀ (j:Nat) t v,fn.params[j]?=some t->args[j]?=some v->Value.okWide Tryz.prog W .any base t v) (hl:laidMetH Tryz.prog laid W)
  (hA:∃ (ds:List (DataW H)) (p:List MemPlace),DataW.TrodAll enc Tryz.prog W 0 (fun _=>true) true fn.params.toList args.toList ds p) :
  Calls Tryz.prog f args W fun e W'=>e=.returned (.bool true)/\Below W.heap.size W W':=by
 obtain⟨ds,p,hA⟩:=hA
 obtain⟨l0,l1,H⟩:=start hsh hl
 obtain⟨x,hw,r⟩:=args_vals (ι:=startInj [l0,l1] W) (fun b C ty fr e=>by simp only[startInj,e]) fn.params.toList L hp args.toList ds p hA (fun j t v e1 e2=>hval j t v (by simpa using e1) (by simpa using e2))
 refine run_of_call hfn hb ((call x hw).call _ fun i o e=>by rw[heapOf_get];exact e) rfl H ?_ ?_
 ·intro o ho
  simp only[vars,List.mem_cons,List.not_mem_nil,or_false] at ho
  rcases ho with rfl|rfl <;> rfl
 ·have:=LRel.array r
  simpa using this
theorem u8_range {n:Int} (h:(Lit.int .u8 n).wf=true):0<=n/\n<256:=by
 simp[Lit.wf,IntKind.min,IntKind.max,IntKind.signed,IntKind.bits] at h
 omega
end Go.Proofs.YtmhbhclfojmjdaaGreatDoor
