/-
  Base, Logic, Logic3, Door, Fl1, Circ1, Man1, Circ2, Circ3, Circ4, Man2, Short, N1, C5, Ms, Lnz, S2: parts of the proof.
-/
import Derived.Test.YtgiedjgdlckahaaGreatDoorTk41
import Derived.Test.YtgiedjgdlckahaaGreatDoorProg
import Derived.KernelRfl
import Derived.Test.YtgiedjgdlckahaaGreatDoorTie
import Derived.LaidMore
import Derived.Stop.Joined
import Derived.ChangeAt
import Derived.SevenTiedAt
namespace Go.Proofs.YtgiedjgdlckahaaGreatDoor
open Go.Abs
set_option maxRecDepth 100000
abbrev NG:Nat:=3
def u8 (a:Int):Value:=.int .u8 a
theorem hM:Tryz.prog.follows .mixedOrders=true:=by kernel_rfl
theorem JL:Tryz.prog.funcs.toList.all (jU NG)=true:=by kernel_rfl
theorem hP (f:FuncId) (fn:Func) (_:([]:List FuncId).contains f=false) (h:Tryz.prog.funcs[f]?=some fn):jU NG fn=true:=by
 have:=List.all_eq_true.1 JL fn (by
  have:=Array.mem_of_getElem? h
  simpa using this)
 exact this
def i2 (a b:Int):List Value:=[.int .i64 a,.int .i64 b]
def BC:List Value:=i2 0 0++i2 0 0++i2 0 0++i2 1 1++i2 1 1++i2 2 16++i2 2 16++i2 2 16++i2 2 16++i2 2 16++i2 2 16++i2 3 3++i2 2 2++i2 1 16++i2 1 1++i2 0 0
def xZ (a b:Int):List Value:=[.int .u64 a,.int .u64 b]
def qt:List Value:=xZ 0 1++xZ 1 0++xZ 0 0++xZ 1 1
def vars:List AObj:=[.cells BC true,.cells qt true,.cells [] true]
def isTrue:Option (Value×Heap)->Bool
 |some (.bool true,_)=>true
 |_=>false
theorem uF {x:Option (Value×Heap)} (h:isTrue x=true):∃ h',x=some (.bool true,h'):=by
 unfold isTrue at h;split at h
 ·exact⟨_,rfl⟩
 ·cases h
def bare:List AObj:=List.replicate NG .dead
noncomputable def Ad (l:List AObj) (f:FuncId) (vs:Array Value):Option Value:=(je Tryz.prog [] (ni Tryz.prog) 60 f vs (bJ l)).map (·.1)
theorem Aa {l:List AObj}{f:FuncId}{vs:Array Value}{v:Value} (e:Ad l f vs=some v):∃ h',CallD Tryz.prog NG f vs (bJ l) v h':=by
 unfold Ad at e
 cases q:je Tryz.prog [] (ni Tryz.prog) 60 f vs (bJ l) with
 |none=>simp[q] at e
 |some r =>
  obtain⟨v',h'⟩:=r;simp[q] at e;subst e;exact⟨h',(iN hM hP (fun f vs h v e=>gS f vs h v e) 60 _ _ _ _ _ q).1⟩
theorem Bv {h:Heap} (hs:NG<=h.size):Bears NG (bJ bare) h:=by
 refine⟨rfl,hs,fun g o e=>.inl ?_⟩;rw[dm] at e;have:=List.mem_of_getElem? e;simp only[bare,List.mem_replicate] at this;exact this.2
theorem HG {f:FuncId}{vs:Array Value}{v:Value}{h:Heap} (e:Ad bare f vs=some v) (h1:vs.all plain=true) (h2:jm v=true):CallD Tryz.prog NG f vs h v h:=by
 obtain⟨h',c⟩:=Aa e;exact CallD.sized fun hs=>c.lift h1 h2 (Bv hs)
variable {h:Heap}
def EG (h:Heap):Prop:=∀ (i:Nat) (o:AObj),vars[i]?=some o->h.get i=some o
def Fv:AObj->Bool
 |.cells cs true=>cs.all plain
 |_=>false
theorem oP {g:Nat}{o:AObj} (e:vars[g]?=some o):∃ cs,o=.cells cs true/\cs.all plain=true:=by
 have h:vars.all Fv=true:=by kernel_rfl
 have:=List.all_eq_true.1 h o (List.mem_of_getElem? e);unfold Fv at this;split at this
 ·exact⟨_,rfl,this⟩
 ·cases this
theorem pf {h:Heap} (hs:NG<=h.size) (v:EG h):Bears NG (bJ vars) h:=by
 refine⟨rfl,hs,fun g o e=>?_⟩;rw[dm] at e;obtain⟨cs,rfl,hp⟩:=oP e;exact .inr ⟨_,rfl,v _ _ e,hp⟩
theorem GV {f:FuncId}{vs:Array Value}{v:Value}{h:Heap} (hv:EG h) (e:Ad vars f vs=some v) (h1:vs.all plain=true) (h2:jm v=true):CallD Tryz.prog NG f vs h v h:=by
 obtain⟨h',c⟩:=Aa e;exact CallD.sized fun hs=>c.lift h1 h2 (pf hs hv)
theorem kinds {k:Int} (h:0<=k):k=0\/k=1\/k=2\/k=3\/k=4\/k=5\/k=6\/k=7\/k=8\/k=9\/k=10\/k=11\/k=12\/k=13\/k=14\/k=15\/∃ n:Nat,k=Int.ofNat (n+16):=by
 by_cases c:k<16
 ·omega
 ·iterate 16 refine .inr ?_
  exact⟨(k-16).toNat,by simp only[Int.ofNat_eq_natCast];omega⟩
def loL (k:Int):Int:=if k<16 then ([0,0,0,1,1,2,2,2,2,2,2,3,2,1,1,0]:List Int).getD k.toNat 0 else 0
def hiL (k:Int):Int:=if k<16 then ([0,0,0,1,1,16,16,16,16,16,16,3,2,16,1,0]:List Int).getD k.toNat 0 else -1
theorem BR (n:Nat):loL (Int.ofNat (n+16))=0:=by unfold loL;rw[if_neg (by simp only[Int.ofNat_eq_natCast];omega)]
theorem HE (n:Nat):hiL (Int.ofNat (n+16)) = -1:=by unfold hiL;rw[if_neg (by simp only[Int.ofNat_eq_natCast];omega)]
theorem E1 {k:Int} (hk:0<=k) (hk2:k<256) {h:Heap} (hv:EG h):CallD Tryz.prog NG 89 #[u8 k] h (.tuple #[.int .i64 (loL k),.int .i64 (hiL k)]) h:=by
 rcases kinds hk with rfl|rfl|rfl|rfl|rfl|rfl|rfl|rfl|rfl|rfl|rfl|rfl|rfl|rfl|rfl|rfl|⟨n,rfl⟩
 iterate 16 exact GV hv (by kernel_rfl) (by kernel_rfl) (by kernel_rfl)
 rw[BR,HE];refine fnP hM Tryz.func89 rfl (hP _ _ rfl Tryz.func89) (lbE rfl) (by kernel_rfl) ?_;refine gW ?_;refine⟨_,iQ rfl rfl rfl (IntWalk.i64_in _ (by omega)),?_⟩;refine gW ?_;refine⟨true,rfl,fun _=>?_,fun hc=>by cases hc⟩;refine gW ?_;exact⟨rfl,Ext.refl _⟩
variable {h:Heap} {a:Option Addr} {n cap:Nat} {l:List Int}
theorem dP {a b:Int} (h:ltI a b=true):a<b:=by rw[cX] at h;simpa using h
theorem dL {a b:Int} (h:ltI a b=false):b<=a:=by rw[cX] at h;simpa using h
end Go.Proofs.YtgiedjgdlckahaaGreatDoor

namespace Go.Proofs.YtgiedjgdlckahaaGreatDoor
open Go.Abs Go.ChangeShapes Go.RowKit Go.ChangeAt
set_option maxRecDepth 100000
theorem own:ownKnob Tryz.prog.godebug=none:=by kernel_rfl
theorem laidOut:laidOutB Tryz.prog=true:=by kernel_rfl
def laid : List (String × DataW Unit) := [("probecard/logic.fanins", Rows.laid_probecard_logic_fanins), ("probecard/words.masks", Rows.laid_probecard_words_masks)]
theorem Cz : Tryz.prog.globalNamed "probecard/logic.fanins" = some 0 := by kernel_rfl
theorem Em (os:Os) (args:Array Value):laidMetH Tryz.prog laid ((World.doorLaid Tryz.prog 400 os).forCall (fun _ _=>0) ⟨#[],args,[]⟩).memory :=
 laidMetH_of_parts3 (fuel:=8) (laidMet_of_run' 8 (by kernel_rfl) (by kernel_rfl)) (by kernel_rfl) (by kernel_rfl)
theorem Dx:CE Tryz.prog 5 (((Tryz.prog.globals[0]?).map (·.type)).getD 0)=true:=by kernel_rfl
theorem Bc:flat (H:=Unit) Rows.laid_probecard_logic_fanins=some BC:=by kernel_rfl
theorem EC : Tryz.prog.globalNamed "probecard/words.masks" = some 1 := by kernel_rfl
theorem Ep:Bj Tryz.prog 5 (((Tryz.prog.globals[1]?).map (·.type)).getD 0)=true:=by kernel_rfl
theorem Dd:flat (H:=Unit) Rows.laid_probecard_words_masks=some qt:=by kernel_rfl
theorem BW {W:World} (h:laidMetH Tryz.prog laid W) (i:Nat):W.cell? ⟨0,i,none⟩=BC[i]?/\W.cell? ⟨1,i,none⟩=qt[i]?:=by
 rw[MakeChecks.laidMetH_plain _ _ _ (by kernel_rfl)] at h;obtain⟨ps,⟨g0,t0,cs0,f0,p0,q0,hg0,ht0,hv0,hd0,hl,_⟩,_,_⟩:=h;obtain⟨g1,t1,cs1,f1,p1,q1,hg1,ht1,hv1,hd1,_⟩:=hl
 have ht:t0=(((Tryz.prog.globals[0]?).map (·.type)).getD 0):=by
  obtain rfl:=Option.some.inj (Cz.symm.trans hg0);rw[ht0];rfl
 have ht2:t1=(((Tryz.prog.globals[1]?).map (·.type)).getD 0):=by
  obtain rfl:=Option.some.inj (EC.symm.trans hg1);rw[ht1];rfl
 subst ht ht2;obtain rfl:=Option.some.inj (Cz.symm.trans hg0);obtain rfl:=Option.some.inj (EC.symm.trans hg1);exact⟨A6 hg0 hv0 hd0 Dx Bc i,zj hg1 hv1 hd1 Ep Dd i⟩
theorem block {W:World} (h:W.ShapedOpen Tryz.prog) (g:Nat) (hg:g<Tryz.prog.globals.size) (hb:(((begin Tryz.prog (fun _ _=>0) default).world.heap[g]?).bind Obj.row?).isSome=true):∃ C ty fr,W.heap[g]?=some (.cells C ty fr):=by
 obtain⟨⟨zero,t⟩,e⟩:=Option.isSome_iff_exists.1 hb;obtain⟨cs,h1,_⟩:=h.1 g zero t hg e;exact⟨cs,t,_,h1⟩
theorem start {W:World} (hsh:W.ShapedOpen Tryz.prog) (hl:laidMetH Tryz.prog laid W):∃ l0 l1 l2:Abs.Loc,HRel 3 (jS [l0,l1,l2] W) (bJ vars) W:=by
 obtain⟨C0,ty0,fr0,h0⟩:=block hsh 0 (of_decide_eq_true (by kernel_rfl)) (by kernel_rfl);obtain⟨C1,ty1,fr1,h1⟩:=block hsh 1 (of_decide_eq_true (by kernel_rfl)) (by kernel_rfl);obtain⟨C2,ty2,fr2,h2⟩:=block hsh 2 (of_decide_eq_true (by kernel_rfl)) (by kernel_rfl);have lt:∀ (g:Nat) (C:Array Value) (ty:TypeId) (fr:Nat×Nat),W.heap[g]?=some (.cells C ty fr)->g<W.heap.size:=fun g C ty fr e=>(Array.getElem?_eq_some_iff.1 e).1;refine⟨⟨0,0,C0.size⟩,⟨1,0,C1.size⟩,⟨2,0,C2.size⟩,HRel.start vars [_,_,_] rfl ?_ ?_ ?_ ?_⟩
 ·intro g hg
  match g,hg with
  |0,_=>exact⟨_,rfl,rfl,rfl⟩
  |1,_=>exact⟨_,rfl,rfl,rfl⟩
  |2,_=>exact⟨_,rfl,rfl,rfl⟩
 ·intro l hl;simp only[List.mem_cons,List.not_mem_nil,or_false] at hl
  rcases hl with rfl|rfl|rfl
  ·exact lt _ _ _ _ h0
  ·exact lt _ _ _ _ h1
  ·exact lt _ _ _ _ h2
 ·intro g l o e1 e2
  match g,e1,e2 with
  |0,e1,e2 =>
   simp only[List.getElem?_cons_zero,Option.some.injEq] at e1;simp only[vars,List.getElem?_cons_zero,Option.some.injEq] at e2;subst e1 e2;exact ORel.uu h0 (fun i _=>(BW hl i).1) (by kernel_rfl)
  |1,e1,e2 =>
   simp only[List.getElem?_cons_zero,List.getElem?_cons_succ,Option.some.injEq] at e1;simp only[vars,List.getElem?_cons_zero,List.getElem?_cons_succ,Option.some.injEq] at e2;subst e1 e2;exact ORel.uu h1 (fun i _=>(BW hl i).2) (by kernel_rfl)
  |2,e1,e2 =>
   simp only[List.getElem?_cons_zero,List.getElem?_cons_succ,Option.some.injEq] at e1;simp only[vars,List.getElem?_cons_zero,List.getElem?_cons_succ,Option.some.injEq] at e2;subst e1 e2;exact ORel.uu h2 (fun i hi=>absurd hi (Nat.not_lt_zero _)) rfl
  |g+3,e1,e2=>simp at e1
 ·intro o ho;simp only[vars,List.mem_cons,List.not_mem_nil,or_false] at ho
  rcases ho with rfl|rfl|rfl <;> rfl
theorem G9 {H:Type}{enc:TypeId×Value->H}{f:FuncId}{fn:Func}{c:Code}{d:Nat} (L:List (Sh×Bool)) (hfn:Tryz.prog.funcs[f]?=some fn) (hb:fn.body=some c) (hp:uL Tryz.prog d fn.params.toList L)
  (call:∀ x:CS L,wfL L x->FnV Tryz.prog NG vars f ⟨F0 L x⟩ (.bool true))
  (W:World) (base:Nat) (args:Array Value) (hsh:W.ShapedOpen Tryz.prog) (_:args.size=fn.params.size)
  (hval:∀ (j:Nat) t v,fn.params[j]?=some t->args[j]?=some v->Value.okWide Tryz.prog W .any base t v) (hl:laidMetH Tryz.prog laid W)
  (hA:∃ (ds:List (DataW H)) (p:List MemPlace),DataW.TrodAll enc Tryz.prog W 0 (fun _=>true) true fn.params.toList args.toList ds p) :
  Calls Tryz.prog f args W fun e W'=>e=.returned (.bool true)/\Below W.heap.size W W':=by
 obtain⟨ds,p,hA⟩:=hA;obtain⟨l0,l1,l2,H⟩:=start hsh hl;obtain⟨x,hw,r⟩:=vQ (ι:=jS [l0,l1,l2] W) (fun b C ty fr e=>by simp only[jS,e]) fn.params.toList L hp args.toList ds p hA (fun j t v e1 e2=>hval j t v (by simpa using e1) (by simpa using e2));refine yP hfn hb ((call x hw).call _ fun i o e=>by rw[dm];exact e) rfl H ?_ ?_
 ·intro o ho;simp only[vars,List.mem_cons,List.not_mem_nil,or_false] at ho
  rcases ho with rfl|rfl|rfl <;> rfl
 ·have:=aS.array r;simpa using this
theorem FV {n:Int} (h:(Lit.int .u8 n).wf=true):0<=n/\n<256:=by
 simp[Lit.wf,IntKind.min,IntKind.max,IntKind.signed,IntKind.bits] at h;omega
theorem sM (n:Nat) (h:n<256):IntKind.i64.wrap (Int.ofNat n)=Int.ofNat n:=IntWalk.i64_in _ (by simp only[Int.ofNat_eq_natCast];omega)
theorem Iy:∀ o∈vars,o.fz=o:=by
 intro o m;simp only[vars,List.mem_cons,List.not_mem_nil,or_false] at m
 rcases m with rfl|rfl|rfl <;> rfl
theorem sI {h:Heap} (b:HasB vars h):EG h:=b
theorem Cu {h:Heap} (b:HasB vars h):NG<=h.size:=Heap.ag (b 2 _ rfl)
theorem JJ {f:FuncId}{vs:Array Value}{r:Value} (hr:tH r=true) (c:∀ h,EG h->CallD Tryz.prog NG f vs h r h):FnV Tryz.prog NG vars f vs r:=⟨PureV.tH hr,fun h b=>c h (sI b)⟩
structure Node where
 kind:Nat
 ins:List Nat
 mem:Nat
 bit:Nat
structure Memo where
 addr:List Nat
 data:List Nat
 write:Nat
structure Circ where
 nodes:List Node
 names:List ByteArray
 mems:List Memo
 outs:List Nat
def aj (x:Node):Value:=.agg ⟨[u8 (Int.ofNat x.kind),FL 1 (x.ins.map i64),i64 x.mem,i64 x.bit]⟩
def aD (m:Memo):Value:=.agg ⟨[FL 1 (m.addr.map i64),FL 1 (m.data.map i64),i64 m.write]⟩
def ar (c:Circ):Value:=.agg ⟨[FL 4 (c.nodes.map aj),FL 1 (c.names.map .string),FL 3 (c.mems.map aD),FL 1 (c.outs.map i64)]⟩
theorem kP (l:List Nat):PureV (FL 1 (l.map i64)):=PureV.list fun _=>AllPure.cons (PureV.flat rfl) AllPure.nil
theorem Df (x:Node):PureV (aj x):=PureV.agg (AllPure.cons (PureV.flat rfl) (AllPure.cons (kP _) (AllPure.cons (PureV.flat rfl) (AllPure.cons (PureV.flat rfl) AllPure.nil))))
theorem AN (x:Node):AllPure (cl (aj x)):=AllPure.cons (PureV.flat rfl) (AllPure.cons (kP _) (AllPure.cons (PureV.flat rfl) (AllPure.cons (PureV.flat rfl) AllPure.nil)))
theorem Dl (m:Memo):AllPure (cl (aD m)):=AllPure.cons (kP _) (AllPure.cons (kP _) (AllPure.cons (PureV.flat rfl) AllPure.nil))
theorem tA (c:Circ):AllPure (cl (ar c)) :=
 AllPure.cons (PureV.list AN) (AllPure.cons (PureV.list fun _=>AllPure.cons (PureV.flat rfl) AllPure.nil) (AllPure.cons (PureV.list Dl) (AllPure.cons (kP _) AllPure.nil)))
theorem nF (c:Circ):PureV (ar c):=PureV.agg (tA c)
structure GData where
 kind:Nat
 a:Nat
 b:Nat
 d:Nat
structure CData where
 inp:Nat
 dffs:Nat
 data0:Nat
 data1:Nat
 bus:Bool
 mem:Bool
 port0:Nat
 port1:Nat
 port2:Nat
 port3:Nat
 gates:List GData
 outs:List Nat
def A3 (g:GData):Value:=.agg ⟨[u8 (Int.ofNat g.kind),u8 (Int.ofNat g.a),u8 (Int.ofNat g.b),u8 (Int.ofNat g.d)]⟩
def bO (x:CData):Value:=.agg ⟨[n8 x.inp,n8 x.dffs,n8 x.data0,n8 x.data1,.bool x.bus,.bool x.mem,n8 x.port0,n8 x.port1,n8 x.port2,n8 x.port3,FL 4 (x.gates.map A3),FL 1 (x.outs.map n8)]⟩
structure GOk (g:GData):Prop where
 kind:g.kind<256
 a:g.a<256
 b:g.b<256
 d:g.d<256
structure COk (x:CData):Prop where
 inp:x.inp<256
 dffs:x.dffs<256
 data0:x.data0<256
 data1:x.data1<256
 port0:x.port0<256
 port1:x.port1<256
 port2:x.port2<256
 port3:x.port3<256
 gates:∀ g∈x.gates,GOk g
 outs:∀ o∈x.outs,o<256
 gatesLen:x.gates.length<2 ^ 62
 outsLen:x.outs.length<2 ^ 62
def loN (k:Nat):Nat:=(loL (Int.ofNat k)).toNat
def hiZ (k:Nat):Int:=hiL (Int.ofNat k)
theorem Iw (k:Nat):Int.ofNat (loN k)=loL (Int.ofNat k):=by
 unfold loN
 have:0<=loL (Int.ofNat k):=by
  rcases kinds (k:=Int.ofNat k) (Int.natCast_nonneg k) with h|h|h|h|h|h|h|h|h|h|h|h|h|h|h|h|⟨n,h⟩ <;> rw[h]
  iterate 16 decide
  rw[BR];decide
 exact Int.toNat_of_nonneg this
def gV (k:Nat) (K:Nat×Int->Prop):Prop:=k<256/\K (loN k,hiZ k)
theorem kS {k:Nat}{K:Nat×Int->Prop} (hm:gV k K) {h0:Heap} (hB:HasB vars h0):∃ r,K r/\CallD Tryz.prog NG 89 ⟨[n8 k]⟩ h0 ((fun r=>Value.tuple ⟨[i64 r.1,z64 r.2]⟩) r) h0:=by
 refine⟨_,hm.2,?_⟩;have:=E1 (k:=Int.ofNat k) (Int.natCast_nonneg k) (by have:=hm.1;simp only[Int.ofNat_eq_natCast];omega) (sI hB);rw[<- Iw] at this;exact this
structure Ln where
 node:Nat
 pin:Nat
def cc (x:Ln):Value:=.agg ⟨[i64 x.node,i64 x.pin]⟩
theorem yL (x:Ln):AllPure (cl (cc x)):=AllPure.cons (PureV.flat rfl) (AllPure.cons (PureV.flat rfl) AllPure.nil)
def NamesOk (c:Circ):Prop:=FnV Tryz.prog NG vars 211 ⟨[ar c]⟩ (i64 0)
def fZ (c:Circ) (K:Nat->Prop):Prop:=NamesOk c/\K 0
theorem oe {c:Circ}{K:Nat->Prop} (hm:fZ c K) {h0:Heap} (hB:HasB vars h0):∃ r,K r/\CallD Tryz.prog NG 211 ⟨[ar c]⟩ h0 (i64 r) h0:=FnV.walk hm.1 hm.2 hB
def bD (n i:Nat) (ins:List Nat):List Ln:=(ins.zipIdx.filter fun p=>p.1==n).map fun p=>⟨i,p.2⟩
def oa (c:Circ):List (List Ln):=(List.range c.nodes.length).map fun n=>c.nodes.zipIdx.flatMap fun p=>bD n p.2 p.1.ins
def FanOk (c:Circ):Prop:=FnV Tryz.prog NG vars 163 ⟨[ar c]⟩ (ah 1 (ah 2 cc) (oa c))
def fK (c:Circ) (K:List (List Ln)->Prop):Prop:=FanOk c/\K (oa c)
theorem iM {c:Circ}{K:List (List Ln)->Prop} (hm:fK c K) {h0:Heap} (hB:HasB vars h0):∃ r,K r/\CallD Tryz.prog NG 163 ⟨[ar c]⟩ h0 ((ah 1 (ah 2 cc)) r) h0:=FnV.walk hm.1 hm.2 hB
def HC (s:ByteArray):Prop:=FnV Tryz.prog NG vars 258 ⟨[.string s]⟩ (.bool true)
def jM (s:ByteArray) (K:Bool->Prop):Prop:=HC s/\K true
theorem nh {s:ByteArray}{K:Bool->Prop} (hm:jM s K) {h0:Heap} (hB:HasB vars h0):∃ r,K r/\CallD Tryz.prog NG 258 ⟨[Value.string s]⟩ h0 (Value.bool r) h0:=FnV.walk (enc:=Value.bool) hm.1 hm.2 hB
theorem ew (l:List Nat):∀ e∈l.map i64,(cl e).length=1:=by
 intro e m;obtain⟨a,_,rfl⟩:=List.mem_map.1 m;rfl
theorem uG:∀ l:List Nat,flatC (l.map i64)=l.map i64
 |[]=>rfl
 |a::l=>by rw[List.map_cons,fF,uG l];rfl
def cQ (ks:List Nat):Nat->List Nat
 |0=>[]
 |i+1=>if ks.getD i 0=12 then cQ ks i++[i] else cQ ks i
def jq (bus:Bool) (g:GData) (ks:List Nat):Node :=
 if (if bus then g.kind%13 else g.kind%9)<6 then ⟨5+(if bus then g.kind%13 else g.kind%9),if 128<=g.kind then [g.a%ks.length,g.b%ks.length,g.d%ks.length] else [g.a%ks.length,g.b%ks.length],0,0⟩
 else if (if bus then g.kind%13 else g.kind%9)=6 then ⟨4,[g.a%ks.length],0,0⟩
 else if (if bus then g.kind%13 else g.kind%9)=7 then ⟨11,[g.a%ks.length,g.b%ks.length,g.d%ks.length],0,0⟩
 else if (if bus then g.kind%13 else g.kind%9)=9\/(if bus then g.kind%13 else g.kind%9)=10 then ⟨12,[g.a%ks.length,g.b%ks.length],0,0⟩
 else if 10<(if bus then g.kind%13 else g.kind%9)/\0<(cQ ks ks.length).length then
  ⟨13,if 1<(cQ ks ks.length).length then [(cQ ks ks.length).getD (g.a%(cQ ks ks.length).length) 0,(cQ ks ks.length).getD ((g.a%(cQ ks ks.length).length+1)%(cQ ks ks.length).length) 0] else [(cQ ks ks.length).getD (g.a%(cQ ks ks.length).length) 0],0,0⟩
 else if 240<g.kind then ⟨1+g.a%2,[],0,0⟩
 else ⟨3,[g.a%ks.length],0,0⟩
theorem uD (ks:List Nat):∀ i,(cQ ks i).length<=i
 |0=>Nat.le_refl 0
 |i+1=>by
  have:=uD ks i;unfold cQ;split
  ·simp;omega
  ·omega
set_option maxHeartbeats 8000000 in
theorem EN {x:CData}{g:GData} (hg:GOk g) {ks:List Nat} (hn:0<ks.length) (hn2:ks.length<=1000) {gn:Nat}{sp:Option Nat}{cap:Nat}{cs:List Value}{ro:Bool}{h0:Heap} (hB:HasB vars h0)
  (hgn:h0.get gn=some (.cells cs ro)) (hcs:∀ i,i<ks.length->cs[0+i*4]?=some (n8 (ks.getD i 0))) :
  CallD Tryz.prog NG 145 #[bO x,A3 g,.slice (some ⟨gn,0,sp⟩) ks.length cap] h0 (aj (jq x.bus g ks)) h0:=by
 obtain⟨kind,a,b,d⟩:=g;obtain⟨inp,dffs,data0,data1,bus,mem,p0,p1,p2,p3,gates,outs⟩:=x;obtain⟨hk,ha,hb,hd⟩:=hg;simp only at hk ha hb hd;have hnode:∀ k ins,aj ⟨k,ins,0,0⟩=aj ⟨k,ins,0,0⟩:=fun _ _=>rfl;unfold jq;simp only;refine fnH hM Tryz.func145 rfl (hP _ _ rfl Tryz.func145) (lbE rfl) (hB) (Df _) fun O=>?_;refine gW ?_;refine NewG.frz rfl ?_;refine gW ?_;refine NewG.frz rfl ?_;refine gW ?_;refine O.new (ai (l:=[u8 0,.slice none 0 0,i64 0,i64 0]) rfl rfl rfl) fun g6 h O=>?_;refine gW ?_
 (refine gW ?_);repeat((first|refine⟨_,(rfl:aT _ _ _ _=some _),?_⟩|refine nA rfl ?_|refine⟨_,iQ rfl rfl rfl (sM _ (by omega)),?_⟩|refine⟨_,vv rfl rfl (by omega),?_⟩|refine⟨.inl rfl,?_⟩);(refine gW ?_))
 refine Ir hM (by kernel_rfl) (nn:=158) ks.length (fun i (a:Option Nat) h'=>(a=none->cQ ks i=[])/\Own vars h0 [(a,.cells (flatC ((cQ ks i).map i64)) false),(some g6,.cells [u8 0,.slice none 0 0,i64 0,i64 0] false)] h')
  (fun i t=>[(2,.slice (some ⟨gn,0,sp⟩) ks.length cap),(3,FP (bO ⟨inp,dffs,data0,data1,bus,mem,p0,p1,p2,p3,gates,outs⟩)),(4,FP (A3 ⟨kind,a,b,d⟩)),(6,.pointer (some ⟨g6,0,none⟩)),(7,i64 ks.length),(8,i64 (a%ks.length)),(9,i64 (b%ks.length)),(10,i64 (d%ks.length)),(11,ae 1 t ((cQ ks i).map i64)),(12,i64 i)])
  rfl none ⟨fun _=>rfl,O.bC _⟩ ⟨rfl,rfl,rfl,rfl,rfl,rfl,rfl,rfl,rfl,rfl,trivial⟩ ?_ ?_
 ·rintro i t base h1 hi ⟨ht,O⟩;have hle:=uD ks i;refine gW ?_;refine⟨_,rfl,fun _=>?_,(fun hx=>nomatch (hx.symm.trans (Is hi)))⟩;refine gW ?_;refine bb (s:=4) rfl rfl rfl rfl hi ?_;refine gW ?_;refine⟨_,bz rfl (O.ext.get hgn) rfl (hcs i hi),?_⟩;refine gW ?_;refine⟨_,rfl,fun hc=>?_,fun hc=>?_⟩
  ·have hk12:ks.getD i 0=12:=by have:=eq_of_beq hc;simp only[Int.ofNat_eq_natCast] at this;omega
   have hts:cQ ks (i+1)=cQ ks i++[i]:=by rw[cQ,if_pos hk12]
   have hv:(cQ ks i).map i64++[i64 i]=(cQ ks (i+1)).map i64:=by rw[hts,List.map_append];rfl
   refine gW ?_;refine NewG.frz rfl ?_;refine gW ?_;refine O.append (s:=1) (b:=8) (m:=1) (new:=[i64 i]) (.head _) (fun e=>by rw[ht e];rfl) rfl rfl rfl rfl rfl rfl rfl rfl rfl rfl rfl (by rw[hv];exact ew _) rfl (by decide) (by rw[List.length_map];omega) (hv) fun t' h ha O=>?_;refine gW ?_;refine⟨_,GA (b:=1) rfl rfl (by omega),?_⟩;refine gW ?_;exact⟨t',⟨fun e=>by have:=ha e;simpa using this,O⟩,rfl,rfl,rfl,rfl,rfl,rfl,rfl,rfl,rfl,rfl,trivial⟩
  ·have hk12:¬ ks.getD i 0=12:=fun e=>by rw[e] at hc;cases hc
   have hts:cQ ks (i+1)=cQ ks i:=by rw[cQ,if_neg hk12]
   refine gW ?_;refine⟨_,GA (b:=1) rfl rfl (by omega),?_⟩;refine gW ?_;exact⟨t,by rw[hts];exact⟨ht,O⟩,rfl,rfl,rfl,rfl,rfl,rfl,rfl,rfl,by rw[hts];rfl,rfl,trivial⟩
 ·rintro t base h1 ⟨ht,O⟩;have hle:=uD ks ks.length;generalize cQ ks ks.length=T at ht O hle;refine gW ?_;refine⟨_,rfl,(fun hx=>nomatch (hx.symm.trans (Ix ks.length))),fun _=>?_⟩;refine gW ?_;have hU8:∀ n:Nat,n<256->IntKind.u8.wrap (Int.ofNat n)=Int.ofNat n:=fun n hn=>IntWalk.u8_in _ (by simp only[Int.ofNat_eq_natCast];omega)
  cases bus with
  |true =>
   (refine gW ?_);repeat((first|refine⟨true,rfl,fun _=>?_,(fun hc=>nomatch hc)⟩|refine⟨_,(rfl:aT _ _ _ _=some _),?_⟩|refine⟨_,iQ rfl rfl rfl (sM _ (by omega)),?_⟩|refine⟨_,vv (b:=9) rfl rfl (by decide),?_⟩|refine⟨_,vv (b:=13) rfl rfl (by decide),?_⟩);(refine gW ?_))
   simp only[if_true];generalize hkk:kind%13=kk
   have hk13:kk<13:=by omega
   refine⟨_,rfl,fun hc=>?_,fun hc=>?_⟩
   ·have h6:kk<6:=(by have:=dP (hc);first|omega | (simp only[Int.ofNat_eq_natCast] at this;omega));rw[if_pos h6];refine gW ?_;refine⟨_,iQ rfl rfl rfl (hU8 kk (by omega)),?_⟩;refine gW ?_;refine⟨_,qw (a:=5) rfl rfl (by omega),?_⟩;refine gW ?_;refine O.new (po (vs:=[i64 (a%ks.length),i64 (b%ks.length)]) (s:=1) (z:=i64 0) rfl rfl (by kernel_rfl) (by kernel_rfl) rfl rfl rfl rfl (ew [a%ks.length,b%ks.length])) fun gi h O=>?_;refine gW ?_;refine O.new (ai (l:=[u8 0,.slice none 0 0,i64 0,i64 0]) rfl rfl rfl) fun gv h O=>?_;refine gW ?_
    (refine gW ?_);repeat((first|refine⟨_,(rfl:aT _ _ _ _=some _),?_⟩|refine O.store (.head _) rfl rfl rfl rfl (lbE rfl) rfl rfl fun h O=>?_);(refine gW ?_))
    refine⟨_,rfl,fun hc=>?_,fun hc=>?_⟩
    ·have h128:128<=kind:=by
      have hc:(!ltI (Int.ofNat kind) 128)=true:=hc;rw[cX] at hc;simp at hc;omega
     rw[if_pos h128]
     (refine gW ?_);repeat(refine⟨_,bz rfl O.i0 rfl rfl,?_⟩;(refine gW ?_))
     refine NewG.frz rfl ?_;refine gW ?_;refine O.xq (s:=1) (b:=8) (m:=1) (n:=2) (new:=[i64 (d%ks.length)]) O.i1 rfl rfl rfl rfl rfl rfl rfl rfl rfl rfl rfl rfl (by decide) rfl (by decide) (by decide) rfl fun gj h O=>?_;refine gW ?_
     (refine gW ?_);repeat((first|refine⟨_,aI rfl O.i1 rfl rfl (lbE rfl) rfl,?_⟩|refine O.store (.tail _ (.head _)) rfl rfl rfl rfl (lbE rfl) rfl rfl fun h O=>?_|refine O.store (.tail _ (.tail _ (.tail _ (.tail _ (.head _))))) rfl rfl rfl rfl (lbE rfl) rfl rfl fun h O=>?_);(refine gW ?_))
     refine⟨_,au rfl rfl O.i4 rfl rfl (lbE rfl) rfl,?_⟩;refine gW ?_;refine⟨O.ext,fun h2 F=>VLe.agg (LLe.cons (VLe.refl _ _) (LLe.cons (O.flat (es:=[a%ks.length,b%ks.length,d%ks.length].map i64) F (Nat.le_refl _) (.head _) rfl rfl (ew _)) (LLe.refl _ _)))⟩
    ·have h128:¬ 128<=kind:=by
      have hc:(!ltI (Int.ofNat kind) 128)=false:=hc;rw[cX] at hc;simp at hc;omega
     rw[if_neg h128]
     (refine gW ?_);repeat((first|refine⟨_,aI rfl O.i0 rfl rfl (lbE rfl) rfl,?_⟩|refine O.store (.tail _ (.tail _ (.tail _ (.head _)))) rfl rfl rfl rfl (lbE rfl) rfl rfl fun h O=>?_);(refine gW ?_))
     refine⟨_,au rfl rfl O.i3 rfl rfl (lbE rfl) rfl,?_⟩;refine gW ?_;refine⟨O.ext,fun h2 F=>VLe.agg (LLe.cons (VLe.refl _ _) (LLe.cons (O.flat (es:=[a%ks.length,b%ks.length].map i64) F (Nat.le_refl _) (.tail _ (.head _)) rfl rfl (ew _)) (LLe.refl _ _)))⟩
   ·have h6:¬ kk<6:=(by have:=dL (hc);first|omega | (simp only[Int.ofNat_eq_natCast] at this;omega))
    have eqN:∀ c:Nat,(Int.ofNat kk==(Int.ofNat c))=decide (kk=c):=fun c=>by
     rw[Bool.eq_iff_iff];simp only[Int.ofNat_eq_natCast,beq_iff_eq,decide_eq_true_eq];omega
    rw[if_neg h6];refine gW ?_;refine⟨_,rfl,fun hc=>?_,fun hc=>?_⟩
    ·rw[if_pos (of_decide_eq_true ((eqN 6).symm.trans hc))]
     (refine gW ?_);repeat((first|refine O.store (.tail _ (.head _)) rfl rfl rfl rfl (lbE rfl) rfl rfl fun h O=>?_|refine NewG.frz rfl ?_);(refine gW ?_))
     refine⟨_,au rfl rfl O.i1 rfl rfl (lbE rfl) rfl,?_⟩;refine gW ?_;exact O.ret
    rw[if_neg (of_decide_eq_false ((eqN 6).symm.trans hc))];refine gW ?_;refine⟨_,rfl,fun hc=>?_,fun hc=>?_⟩
    ·rw[if_pos (of_decide_eq_true ((eqN 7).symm.trans hc))]
     (refine gW ?_);repeat((first|refine O.store (.tail _ (.head _)) rfl rfl rfl rfl (lbE rfl) rfl rfl fun h O=>?_|refine NewG.frz rfl ?_);(refine gW ?_))
     refine⟨_,au rfl rfl O.i1 rfl rfl (lbE rfl) rfl,?_⟩;refine gW ?_;exact O.ret
    rw[if_neg (of_decide_eq_false ((eqN 7).symm.trans hc))];refine gW ?_;refine⟨_,rfl,fun hc=>?_,fun hc=>?_⟩
    ·rw[if_pos (.inl (of_decide_eq_true ((eqN 9).symm.trans hc)))];rw[hc]
     (refine gW ?_);repeat((first|refine⟨true,rfl,fun _=>?_,(fun hc=>nomatch hc)⟩|refine O.store (.tail _ (.head _)) rfl rfl rfl rfl (lbE rfl) rfl rfl fun h O=>?_|refine NewG.frz rfl ?_);(refine gW ?_))
     refine⟨_,au rfl rfl O.i1 rfl rfl (lbE rfl) rfl,?_⟩;refine gW ?_;exact O.ret
    have h9:¬ kk=9:=of_decide_eq_false ((eqN 9).symm.trans hc);rw[hc];refine gW ?_;refine⟨_,rfl,fun hc=>?_,fun hc=>?_⟩
    ·rw[if_pos (.inr (of_decide_eq_true ((eqN 10).symm.trans hc)))]
     (refine gW ?_);repeat((first|refine O.store (.tail _ (.head _)) rfl rfl rfl rfl (lbE rfl) rfl rfl fun h O=>?_|refine NewG.frz rfl ?_);(refine gW ?_))
     refine⟨_,au rfl rfl O.i1 rfl rfl (lbE rfl) rfl,?_⟩;refine gW ?_;exact O.ret
    rw[if_neg (fun h=>h.elim h9 (of_decide_eq_false ((eqN 10).symm.trans hc)))];refine gW ?_;refine⟨_,rfl,fun hc=>?_,fun hc=>?_⟩
    ·have h10:10<kk:=(by have:=dP (hc);first|omega | (simp only[Int.ofNat_eq_natCast] at this;omega));rw[hc];refine gW ?_;rw[List.length_map];refine⟨_,rfl,fun hc=>?_,fun hc=>?_⟩
     ·have hT:0<T.length:=(by have:=dP (hc);first|omega | (simp only[Int.ofNat_eq_natCast] at this;omega));rw[if_pos ⟨h10,hT⟩]
      obtain⟨gt,rfl⟩:∃ gt,t=some gt:=by
       cases t with
       |none=>rw[ht rfl] at hT;simp at hT
       |some g=>exact⟨g,rfl⟩
      rw[uG] at O
      have hTg:∀ i,i<T.length->(T.map i64)[0+i*1]?=some (i64 (T.getD i 0)):=fun i hi=>by
       rw[Nat.zero_add,Nat.mul_one,List.getElem?_map,List.getElem?_eq_getElem hi,List.getD,List.getElem?_eq_getElem hi];rfl
      (refine gW ?_);repeat((first|refine⟨_,(rfl:aT _ _ _ _=some _),?_⟩|refine nA rfl ?_|refine⟨_,iQ rfl rfl rfl (sM _ (by omega)),?_⟩);(refine gW ?_))
      rw[List.length_map];refine⟨_,vv (b:=T.length) rfl rfl hT,?_⟩;refine gW ?_;have hmod:=Nat.mod_lt a hT;refine bb (s:=1) rfl rfl rfl rfl (by rw[List.length_map];exact hmod) ?_;refine gW ?_;refine⟨_,bz rfl O.i0 rfl (hTg _ hmod),?_⟩;refine gW ?_;refine O.new (po (vs:=[i64 (T.getD (a%T.length) 0)]) (s:=1) (z:=i64 0) rfl rfl (by kernel_rfl) (by kernel_rfl) rfl rfl rfl rfl (ew [T.getD (a%T.length) 0])) fun gi h O=>?_;refine gW ?_;refine O.new (ai (l:=[u8 0,.slice none 0 0,i64 0,i64 0]) rfl rfl rfl) fun gv h O=>?_;refine gW ?_
      (refine gW ?_);repeat(refine O.store (.head _) rfl rfl rfl rfl (lbE rfl) rfl rfl fun h O=>?_;(refine gW ?_))
      rw[List.length_map];refine⟨_,rfl,fun hc=>?_,fun hc=>?_⟩
      ·have hT1:1<T.length:=(by have:=dP (hc);first|omega | (simp only[Int.ofNat_eq_natCast] at this;omega));rw[if_pos hT1];have hmod2:=Nat.mod_lt (a%T.length+1) hT
       have hk63:a%T.length+1<2 ^ 63:=by omega
       (refine gW ?_);repeat((first|refine⟨_,bz rfl O.i0 rfl rfl,?_⟩|refine⟨_,GA (b:=1) rfl rfl (by omega),?_⟩|refine⟨.inr (.inr (bz rfl O.i0 rfl rfl)),?_⟩);(refine gW ?_))
       rw[List.length_map];refine⟨_,vv (b:=T.length) rfl rfl hT,?_⟩;refine gW ?_;refine bb (s:=1) rfl rfl rfl rfl (hmod2) ?_;refine gW ?_;refine⟨_,bz rfl O.i2 rfl (hTg _ hmod2),?_⟩;refine gW ?_;refine⟨.inl rfl,?_⟩;refine gW ?_;refine O.AK (po (vs:=[i64 (T.getD ((a%T.length+1)%T.length) 0)]) (s:=1) (z:=i64 0) rfl rfl (by kernel_rfl) (by kernel_rfl) rfl rfl rfl rfl (ew [T.getD ((a%T.length+1)%T.length) 0])) fun gy h O=>?_;refine gW ?_;refine O.xq (s:=1) (b:=8) (m:=1) (n:=1) (new:=[i64 (T.getD ((a%T.length+1)%T.length) 0)]) O.i2 rfl rfl rfl rfl rfl rfl rfl rfl rfl rfl (so O.i0 rfl) rfl (by decide) rfl (by decide) (by decide) rfl fun gj h O=>?_;refine gW ?_
       (refine gW ?_);repeat((first|refine⟨_,aI rfl O.i2 rfl rfl (lbE rfl) rfl,?_⟩|refine⟨.inl rfl,?_⟩|refine O.store (.tail _ (.tail _ (.head _))) rfl rfl rfl rfl (lbE rfl) rfl rfl fun h O=>?_|refine O.store (.tail _ (.tail _ (.tail _ (.tail _ (.tail _ (.head _)))))) rfl rfl rfl rfl (lbE rfl) rfl rfl fun h O=>?_);(refine gW ?_))
       refine⟨_,au rfl rfl O.i5 rfl rfl (lbE rfl) rfl,?_⟩;refine gW ?_;refine⟨O.ext,fun h2 F=>VLe.agg (LLe.cons (VLe.refl _ _) (LLe.cons (O.flat (es:=[T.getD (a%T.length) 0,T.getD ((a%T.length+1)%T.length) 0].map i64) F (Nat.le_refl _) (.head _) rfl rfl (ew _)) (LLe.refl _ _)))⟩
      ·have hT1:¬ 1<T.length:=(by have:=dL (hc);first|omega | (simp only[Int.ofNat_eq_natCast] at this;omega));rw[if_neg hT1]
       (refine gW ?_);repeat((first|refine⟨_,aI rfl O.i0 rfl rfl (lbE rfl) rfl,?_⟩|refine O.store (.tail _ (.tail _ (.tail _ (.head _)))) rfl rfl rfl rfl (lbE rfl) rfl rfl fun h O=>?_);(refine gW ?_))
       refine⟨_,au rfl rfl O.i3 rfl rfl (lbE rfl) rfl,?_⟩;refine gW ?_;refine⟨O.ext,fun h2 F=>VLe.agg (LLe.cons (VLe.refl _ _) (LLe.cons (O.flat (es:=[T.getD (a%T.length) 0].map i64) F (Nat.le_refl _) (.tail _ (.head _)) rfl rfl (ew _)) (LLe.refl _ _)))⟩
     ·have hno:¬ (10<kk/\0<T.length):=fun h=>absurd h.2 (by have:=dL (hc);first|omega | (simp only[Int.ofNat_eq_natCast] at this;omega));rw[if_neg hno]
      (refine gW ?_);repeat(refine⟨_,(rfl:aT _ _ _ _=some _),?_⟩;(refine gW ?_))
      refine⟨_,rfl,fun hc=>?_,fun hc=>?_⟩
      ·have h240:240<kind:=(by have:=dP (hc);first|omega | (simp only[Int.ofNat_eq_natCast] at this;omega));rw[if_pos h240]
       (refine gW ?_);repeat((first|refine⟨_,(rfl:aT _ _ _ _=some _),?_⟩|refine nA rfl ?_|refine⟨_,vv (b:=2) rfl rfl (by decide),?_⟩);(refine gW ?_))
       refine⟨_,qw (a:=1) rfl rfl (by omega),?_⟩;refine gW ?_
       (refine gW ?_);repeat(refine O.store (.tail _ (.head _)) rfl rfl rfl rfl (lbE rfl) rfl rfl fun h O=>?_;(refine gW ?_))
       refine⟨_,au rfl rfl O.i1 rfl rfl (lbE rfl) rfl,?_⟩;refine gW ?_;exact⟨O.ext,fun h2 F=>VLe.agg (LLe.cons (VLe.refl _ _) (LLe.cons (VLe.nil _ _) (LLe.refl _ _)))⟩
      ·have h240:¬ 240<kind:=(by have:=dL (hc);first|omega | (simp only[Int.ofNat_eq_natCast] at this;omega));rw[if_neg h240]
       (refine gW ?_);repeat((first|refine O.store (.tail _ (.head _)) rfl rfl rfl rfl (lbE rfl) rfl rfl fun h O=>?_|refine NewG.frz rfl ?_);(refine gW ?_))
       refine⟨_,au rfl rfl O.i1 rfl rfl (lbE rfl) rfl,?_⟩;refine gW ?_;exact O.ret
    ·have hno:¬ (10<kk/\0<T.length):=fun h=>absurd h.1 (by have:=dL (hc);first|omega | (simp only[Int.ofNat_eq_natCast] at this;omega));rw[hc];refine gW ?_;refine⟨false,rfl,(fun hc=>nomatch hc),fun _=>?_⟩;refine gW ?_;rw[if_neg hno]
     (refine gW ?_);repeat(refine⟨_,(rfl:aT _ _ _ _=some _),?_⟩;(refine gW ?_))
     refine⟨_,rfl,fun hc=>?_,fun hc=>?_⟩
     ·have h240:240<kind:=(by have:=dP (hc);first|omega | (simp only[Int.ofNat_eq_natCast] at this;omega));rw[if_pos h240]
      (refine gW ?_);repeat((first|refine⟨_,(rfl:aT _ _ _ _=some _),?_⟩|refine nA rfl ?_|refine⟨_,vv (b:=2) rfl rfl (by decide),?_⟩);(refine gW ?_))
      refine⟨_,qw (a:=1) rfl rfl (by omega),?_⟩;refine gW ?_
      (refine gW ?_);repeat(refine O.store (.tail _ (.head _)) rfl rfl rfl rfl (lbE rfl) rfl rfl fun h O=>?_;(refine gW ?_))
      refine⟨_,au rfl rfl O.i1 rfl rfl (lbE rfl) rfl,?_⟩;refine gW ?_;exact⟨O.ext,fun h2 F=>VLe.agg (LLe.cons (VLe.refl _ _) (LLe.cons (VLe.nil _ _) (LLe.refl _ _)))⟩
     ·have h240:¬ 240<kind:=(by have:=dL (hc);first|omega | (simp only[Int.ofNat_eq_natCast] at this;omega));rw[if_neg h240]
      (refine gW ?_);repeat((first|refine O.store (.tail _ (.head _)) rfl rfl rfl rfl (lbE rfl) rfl rfl fun h O=>?_|refine NewG.frz rfl ?_);(refine gW ?_))
      refine⟨_,au rfl rfl O.i1 rfl rfl (lbE rfl) rfl,?_⟩;refine gW ?_;exact O.ret
  |false =>
   (refine gW ?_);repeat((first|refine⟨false,rfl,(fun hc=>nomatch hc),fun _=>?_⟩|refine⟨_,(rfl:aT _ _ _ _=some _),?_⟩|refine⟨_,iQ rfl rfl rfl (sM _ (by omega)),?_⟩|refine⟨_,vv (b:=9) rfl rfl (by decide),?_⟩);(refine gW ?_))
   simp only[Bool.false_eq_true,if_false];generalize hkk:kind%9=kk
   have hk13:kk<9:=by omega
   refine⟨_,rfl,fun hc=>?_,fun hc=>?_⟩
   ·have h6:kk<6:=(by have:=dP (hc);first|omega | (simp only[Int.ofNat_eq_natCast] at this;omega));rw[if_pos h6];refine gW ?_;refine⟨_,iQ rfl rfl rfl (hU8 kk (by omega)),?_⟩;refine gW ?_;refine⟨_,qw (a:=5) rfl rfl (by omega),?_⟩;refine gW ?_;refine O.new (po (vs:=[i64 (a%ks.length),i64 (b%ks.length)]) (s:=1) (z:=i64 0) rfl rfl (by kernel_rfl) (by kernel_rfl) rfl rfl rfl rfl (ew [a%ks.length,b%ks.length])) fun gi h O=>?_;refine gW ?_;refine O.new (ai (l:=[u8 0,.slice none 0 0,i64 0,i64 0]) rfl rfl rfl) fun gv h O=>?_;refine gW ?_
    (refine gW ?_);repeat((first|refine⟨_,(rfl:aT _ _ _ _=some _),?_⟩|refine O.store (.head _) rfl rfl rfl rfl (lbE rfl) rfl rfl fun h O=>?_);(refine gW ?_))
    refine⟨_,rfl,fun hc=>?_,fun hc=>?_⟩
    ·have h128:128<=kind:=by
      have hc:(!ltI (Int.ofNat kind) 128)=true:=hc;rw[cX] at hc;simp at hc;omega
     rw[if_pos h128]
     (refine gW ?_);repeat(refine⟨_,bz rfl O.i0 rfl rfl,?_⟩;(refine gW ?_))
     refine NewG.frz rfl ?_;refine gW ?_;refine O.xq (s:=1) (b:=8) (m:=1) (n:=2) (new:=[i64 (d%ks.length)]) O.i1 rfl rfl rfl rfl rfl rfl rfl rfl rfl rfl rfl rfl (by decide) rfl (by decide) (by decide) rfl fun gj h O=>?_;refine gW ?_
     (refine gW ?_);repeat((first|refine⟨_,aI rfl O.i1 rfl rfl (lbE rfl) rfl,?_⟩|refine O.store (.tail _ (.head _)) rfl rfl rfl rfl (lbE rfl) rfl rfl fun h O=>?_|refine O.store (.tail _ (.tail _ (.tail _ (.tail _ (.head _))))) rfl rfl rfl rfl (lbE rfl) rfl rfl fun h O=>?_);(refine gW ?_))
     refine⟨_,au rfl rfl O.i4 rfl rfl (lbE rfl) rfl,?_⟩;refine gW ?_;refine⟨O.ext,fun h2 F=>VLe.agg (LLe.cons (VLe.refl _ _) (LLe.cons (O.flat (es:=[a%ks.length,b%ks.length,d%ks.length].map i64) F (Nat.le_refl _) (.head _) rfl rfl (ew _)) (LLe.refl _ _)))⟩
    ·have h128:¬ 128<=kind:=by
      have hc:(!ltI (Int.ofNat kind) 128)=false:=hc;rw[cX] at hc;simp at hc;omega
     rw[if_neg h128]
     (refine gW ?_);repeat((first|refine⟨_,aI rfl O.i0 rfl rfl (lbE rfl) rfl,?_⟩|refine O.store (.tail _ (.tail _ (.tail _ (.head _)))) rfl rfl rfl rfl (lbE rfl) rfl rfl fun h O=>?_);(refine gW ?_))
     refine⟨_,au rfl rfl O.i3 rfl rfl (lbE rfl) rfl,?_⟩;refine gW ?_;refine⟨O.ext,fun h2 F=>VLe.agg (LLe.cons (VLe.refl _ _) (LLe.cons (O.flat (es:=[a%ks.length,b%ks.length].map i64) F (Nat.le_refl _) (.tail _ (.head _)) rfl rfl (ew _)) (LLe.refl _ _)))⟩
   ·have h6:¬ kk<6:=(by have:=dL (hc);first|omega | (simp only[Int.ofNat_eq_natCast] at this;omega))
    have eqN:∀ c:Nat,(Int.ofNat kk==(Int.ofNat c))=decide (kk=c):=fun c=>by
     rw[Bool.eq_iff_iff];simp only[Int.ofNat_eq_natCast,beq_iff_eq,decide_eq_true_eq];omega
    rw[if_neg h6];refine gW ?_;refine⟨_,rfl,fun hc=>?_,fun hc=>?_⟩
    ·rw[if_pos (of_decide_eq_true ((eqN 6).symm.trans hc))]
     (refine gW ?_);repeat((first|refine O.store (.tail _ (.head _)) rfl rfl rfl rfl (lbE rfl) rfl rfl fun h O=>?_|refine NewG.frz rfl ?_);(refine gW ?_))
     refine⟨_,au rfl rfl O.i1 rfl rfl (lbE rfl) rfl,?_⟩;refine gW ?_;exact O.ret
    rw[if_neg (of_decide_eq_false ((eqN 6).symm.trans hc))];refine gW ?_;refine⟨_,rfl,fun hc=>?_,fun hc=>?_⟩
    ·rw[if_pos (of_decide_eq_true ((eqN 7).symm.trans hc))]
     (refine gW ?_);repeat((first|refine O.store (.tail _ (.head _)) rfl rfl rfl rfl (lbE rfl) rfl rfl fun h O=>?_|refine NewG.frz rfl ?_);(refine gW ?_))
     refine⟨_,au rfl rfl O.i1 rfl rfl (lbE rfl) rfl,?_⟩;refine gW ?_;exact O.ret
    rw[if_neg (of_decide_eq_false ((eqN 7).symm.trans hc))];refine gW ?_;refine⟨_,rfl,fun hc=>?_,fun hc=>?_⟩
    ·rw[if_pos (.inl (of_decide_eq_true ((eqN 9).symm.trans hc)))];rw[hc]
     (refine gW ?_);repeat((first|refine⟨true,rfl,fun _=>?_,(fun hc=>nomatch hc)⟩|refine O.store (.tail _ (.head _)) rfl rfl rfl rfl (lbE rfl) rfl rfl fun h O=>?_|refine NewG.frz rfl ?_);(refine gW ?_))
     refine⟨_,au rfl rfl O.i1 rfl rfl (lbE rfl) rfl,?_⟩;refine gW ?_;exact O.ret
    have h9:¬ kk=9:=of_decide_eq_false ((eqN 9).symm.trans hc);rw[hc];refine gW ?_;refine⟨_,rfl,fun hc=>?_,fun hc=>?_⟩
    ·rw[if_pos (.inr (of_decide_eq_true ((eqN 10).symm.trans hc)))]
     (refine gW ?_);repeat((first|refine O.store (.tail _ (.head _)) rfl rfl rfl rfl (lbE rfl) rfl rfl fun h O=>?_|refine NewG.frz rfl ?_);(refine gW ?_))
     refine⟨_,au rfl rfl O.i1 rfl rfl (lbE rfl) rfl,?_⟩;refine gW ?_;exact O.ret
    rw[if_neg (fun h=>h.elim h9 (of_decide_eq_false ((eqN 10).symm.trans hc)))];refine gW ?_;refine⟨_,rfl,fun hc=>?_,fun hc=>?_⟩
    ·have h10:10<kk:=(by have:=dP (hc);first|omega | (simp only[Int.ofNat_eq_natCast] at this;omega));exact absurd h10 (by omega)
    ·have hno:¬ (10<kk/\0<T.length):=fun h=>absurd h.1 (by have:=dL (hc);first|omega | (simp only[Int.ofNat_eq_natCast] at this;omega));rw[hc];refine gW ?_;refine⟨false,rfl,(fun hc=>nomatch hc),fun _=>?_⟩;refine gW ?_;rw[if_neg hno]
     (refine gW ?_);repeat(refine⟨_,(rfl:aT _ _ _ _=some _),?_⟩;(refine gW ?_))
     refine⟨_,rfl,fun hc=>?_,fun hc=>?_⟩
     ·have h240:240<kind:=(by have:=dP (hc);first|omega | (simp only[Int.ofNat_eq_natCast] at this;omega));rw[if_pos h240]
      (refine gW ?_);repeat((first|refine⟨_,(rfl:aT _ _ _ _=some _),?_⟩|refine nA rfl ?_|refine⟨_,vv (b:=2) rfl rfl (by decide),?_⟩);(refine gW ?_))
      refine⟨_,qw (a:=1) rfl rfl (by omega),?_⟩;refine gW ?_
      (refine gW ?_);repeat(refine O.store (.tail _ (.head _)) rfl rfl rfl rfl (lbE rfl) rfl rfl fun h O=>?_;(refine gW ?_))
      refine⟨_,au rfl rfl O.i1 rfl rfl (lbE rfl) rfl,?_⟩;refine gW ?_;exact⟨O.ext,fun h2 F=>VLe.agg (LLe.cons (VLe.refl _ _) (LLe.cons (VLe.nil _ _) (LLe.refl _ _)))⟩
     ·have h240:¬ 240<kind:=(by have:=dL (hc);first|omega | (simp only[Int.ofNat_eq_natCast] at this;omega));rw[if_neg h240]
      (refine gW ?_);repeat((first|refine O.store (.tail _ (.head _)) rfl rfl rfl rfl (lbE rfl) rfl rfl fun h O=>?_|refine NewG.frz rfl ?_);(refine gW ?_))
      refine⟨_,au rfl rfl O.i1 rfl rfl (lbE rfl) rfl,?_⟩;refine gW ?_;exact O.ret
def lj (i:Nat):ByteArray:=⟨#[110,UInt8.ofNat (48+i/10),UInt8.ofNat (48+i%10)]⟩
theorem DR:([0,1,2,3,4,5,6,7,8,9,10,11,12,13,14,15].all fun i=>match Ad bare 146 #[.int .i64 (Int.ofNat i)] with
 |some (.string s)=>decide (s=lj i)
 |_=>false)=true:=by kernel_rfl
theorem GB {i:Nat} (hi:i<16):FnV Tryz.prog NG vars 146 #[i64 i] (.string (lj i)):=by
 refine JJ rfl fun h _=>?_
 have hm:i∈[0,1,2,3,4,5,6,7,8,9,10,11,12,13,14,15]:=by
  have:i=0\/i=1\/i=2\/i=3\/i=4\/i=5\/i=6\/i=7\/i=8\/i=9\/i=10\/i=11\/i=12\/i=13\/i=14\/i=15:=by omega
  simpa using this
 have:=List.all_eq_true.1 DR i hm;split at this
 ·rename_i s hs;rw[of_decide_eq_true this] at hs;exact HG hs (by kernel_rfl) rfl
 ·cases this
def ij:Node:=⟨0,[],0,0⟩
def pS (d:Nat):Node:=⟨14,[d],0,0⟩
def DP (b:Nat):Node:=⟨15,[],0,b⟩
def hZ (inp dffs:Nat) (mem:Bool):List Node:=List.replicate (inp%4+1) ij++List.replicate (dffs%3) (pS 0)++(if mem then [DP 0,DP 1] else [])
def eI (bus:Bool) (gs:List GData) (base:List Node):Nat->List Node
 |0=>base
 |i+1=>match gs[i]? with
  |some g=>eI bus gs base i++[jq bus g ((eI bus gs base i).map Node.kind)]
  |none=>eI bus gs base i
def cH (x:CData):List Node:=eI x.bus x.gates (hZ x.inp x.dffs x.mem) (min x.gates.length 8)
def nU (first:Nat) (d:Nat->Nat):Nat->List Node->List Node
 |0,ns=>ns
 |i+1,ns=>(nU first d i ns).set (first+i) (pS (d i))
def oB (x:CData) (n j:Nat):Nat:=(if j=0 then x.data0 else x.data1)%n
def fR (x:CData):Circ :=
 let n:=(cH x).length
 ⟨nU (x.inp%4+1) (oB x n) (x.dffs%3) (cH x),(List.range n).map lj,if x.mem then [⟨[x.port0%n],[x.port1%n,x.port2%n],x.port3%n⟩] else [],(x.outs.take 3).map (· % n)++[n-1]⟩
theorem yb:∀ (l:List Node),∀ e∈l.map aj,(cl e).length=4:=by
 intro l e m;obtain⟨a,_,rfl⟩:=List.mem_map.1 m;rfl
theorem Dt {l:List Node}{i:Nat} (hi:i<l.length):(flatC (l.map aj))[0+i*4]?=some (n8 ((l.map Node.kind).getD i 0)):=by
 have hu:(l.map aj)[i]?=some (aj l[i]):=by rw[List.getElem?_map,List.getElem?_eq_getElem hi];rfl
 have:=vf (yb l) hu (i:=0) (by decide);rw[Nat.add_zero] at this;rw[Nat.zero_add,this,List.getD,List.getElem?_map,List.getElem?_eq_getElem hi];rfl
theorem gB (inp dffs:Nat) (mem:Bool):(hZ inp dffs mem).length=inp%4+1+dffs%3+(if mem then 2 else 0):=by
 unfold hZ
 cases mem <;> simp <;> omega
theorem fy (bus:Bool) (gs:List GData) (base:List Node):∀ i,i<=gs.length->(eI bus gs base i).length=base.length+i
 |0,_=>rfl
 |i+1,h=>by
  have hg:gs[i]?=some gs[i]:=List.getElem?_eq_getElem (by omega);simp only[eI,hg,List.length_append,fy bus gs base i (by omega),List.length_singleton];omega
theorem nu {bus:Bool}{gs:List GData}{base:List Node}{i:Nat}{g:GData} (hg:gs[i]?=some g):eI bus gs base (i+1)=eI bus gs base i++[jq bus g ((eI bus gs base i).map Node.kind)]:=by
 simp only[eI,hg]
theorem pd (bus:Bool) (gs:List GData) (base:List Node) {j:Nat} (hj:j<base.length):∀ i,i<=gs.length->(eI bus gs base i)[j]?=base[j]?
 |0,_=>rfl
 |i+1,h=>by
  have hg:gs[i]?=some gs[i]:=List.getElem?_eq_getElem (by omega);rw[nu hg,List.getElem?_append_left (by rw[fy _ _ _ _ (by omega)];omega)];exact pd bus gs base hj i (by omega)
theorem iK (x:CData):(cH x).length=x.inp%4+1+x.dffs%3+(if x.mem then 2 else 0)+min x.gates.length 8:=by
 unfold cH;rw[fy _ _ _ _ (Nat.min_le_left _ _),gB]
theorem B8 (x:CData):(cH x).length<=16:=by
 rw[iK];have h1:=Nat.mod_lt x.inp (show 0<4 by decide);have h2:=Nat.mod_lt x.dffs (show 0<3 by decide)
 split <;> omega
theorem E5 (x:CData):0<(cH x).length:=by rw[iK];omega
theorem Dc {inp dffs:Nat}{mem:Bool}{i:Nat} (hi:i<dffs%3):(hZ inp dffs mem)[inp%4+1+i]?=some (pS 0):=by
 unfold hZ;rw[List.append_assoc,List.getElem?_append_right (by simp),List.length_replicate,List.getElem?_append_left (by simp;omega),List.getElem?_replicate,if_pos (by omega)]
theorem yF {x:CData}{i:Nat} (hi:i<x.dffs%3):(cH x)[x.inp%4+1+i]?=some (pS 0):=by
 unfold cH;rw[pd _ _ _ (by rw[gB];split <;> omega) _ (Nat.min_le_left _ _)];exact Dc hi
inductive PL (h:Heap):List Value->List Value->Prop
 |nil:PL h [] []
 |cons {a b:Value} {l m:List Value}:LLe h (cl a) (cl b)->PL h l m->PL h (a::l) (b::m)
theorem Ht {x:CData}{g:GData} (hg:GOk g) {N:List Node} (hn:0<N.length) (hn2:N.length<=1000) {gn:Nat}{sp:Option Nat}{cap:Nat}{ro:Bool}{h0:Heap} (hB:HasB vars h0) (hgn:h0.get gn=some (.cells (flatC (N.map aj)) ro)) :
  CallD Tryz.prog NG 145 #[bO x,A3 g,.slice (some ⟨gn,0,sp⟩) (N.map aj).length cap] h0 (aj (jq x.bus g (N.map Node.kind))) h0:=by
 have:=EN (x:=x) hg (ks:=N.map Node.kind) (by rw[List.length_map];exact hn) (by rw[List.length_map];exact hn2) (sp:=sp) (cap:=cap) hB hgn fun i hi=>Dt (by rw[List.length_map] at hi;exact hi);rw[List.length_map] at this;rw[List.length_map];exact this
def iD (i:Nat) (K:ByteArray->Prop):Prop:=i<16/\K (lj i)
theorem mg {i:Nat}{K:ByteArray->Prop} (hm:iD i K) {h0:Heap} (hB:HasB vars h0):∃ r,K r/\CallD Tryz.prog NG 146 ⟨[i64 i]⟩ h0 (Value.string r) h0:=FnV.walk (GB hm.1) hm.2 hB
structure Asg where
 net:Nat
 value:Nat
structure U2 where
 a:Nat
 b:Nat
theorem fw {f:FuncId}{fn:Func}{c:Code} (hf:Tryz.prog.funcs[f]?=some fn) {vs:Array Value}{h:Heap} (hB:HasB vars h) {R:Type}{enc:R->Value} (hp:∀ r,PureV (enc r)) {K:R->Prop}
  (hk:Own vars h [] h->CodeS Tryz.prog NG c (dN fn.ntmps vs) h fun x e1 h1=>match x with
   |.exit _=>False
   |_=>qq Tryz.prog e1 h1 fn.results.toList fun vs=>∃ r,K r/\Ext h h1/\∀ h2,Frozen h.size h1 h2->VLe h2 (xI vs) (enc r))
  (hb:fn.body=some c:=by exact rfl) (hs:Nat.ble vs.size fn.ntmps=true:=by exact rfl):∃ r,K r/\CallD Tryz.prog NG f vs h (enc r) h :=
 fnW hM hf hb (hP _ _ rfl hf) (Nat.le_of_ble_eq_true hs) hB hp hk
theorem fg {f:FuncId}{fn:Func}{c:Code} (hf:Tryz.prog.funcs[f]?=some fn) {vs:Array Value}{h:Heap}{Q:Value->Heap->Prop}
  (hk:CodeS Tryz.prog NG c (dN fn.ntmps vs) h fun x e1 h1=>match x with
   |.exit _=>False
   |_=>qq Tryz.prog e1 h1 fn.results.toList fun vs=>Q (xI vs) h1)
  (hb:fn.body=some c:=by exact rfl) (hs:Nat.ble vs.size fn.ntmps=true:=by exact rfl):∃ v h',CallD Tryz.prog NG f vs h v h'/\Q v h' :=
 fnG hM hf hb (hP _ _ rfl hf) (Nat.le_of_ble_eq_true hs) hk
theorem fk {f:FuncId}{fn:Func}{c:Code} (hf:Tryz.prog.funcs[f]?=some fn) (hb:fn.body=some c:=by exact rfl):fnOk Tryz.prog f=true:=(pR hf hb (hP _ _ rfl hf)).1
set_option maxHeartbeats 8000000
def jE (p0:(List Nat)) (p1:Nat) (K:Int->Prop):Prop :=
 an (α:=Unit) (fun k1=>aF (S:=Nat) (fun v2 nx3=>((ltN v2 p0.length)=true->∃ x4,p0[v2]?=some x4/\((eqN p1 x4)=true->K (Int.ofNat v2))/\((eqN p1 x4)=false->v2+1<2 ^ 63/\nx3 (v2+1)))/\((ltN v2 p0.length)=false->k1 ())) 0) (fun _=>K (Int.negSucc 0))
theorem vi {p0:(List Nat)}{p1:Nat}{K:Int->Prop} (hm:jE p0 p1 K) {h0:Heap} (hB:HasB vars h0):∃ r,K r/\CallD Tryz.prog NG 216 ⟨[(ah 1 n8) p0,n8 p1]⟩ h0 (z64 r) h0:=by
 unfold jE at hm
 refine fw Tryz.func216 hB (enc:=z64) (fun r=>PureV.flat rfl) fun O=>?_;conv=>whnf
 apply Cs;conv=>whnf
 apply Cs;refine gH ?_;refine jn hm 19 [] (fun s=>s) (fun _ h=>Own vars h0 [] h) (fun _=>[]) (fun hm=>?_) ?_
 ·refine gX ?_;refine lw 19 [0,1,7] (σ:=Nat) (fun s=>s) (fun v2 h=>Own vars h0 [] h) (fun v2=>[(8,(i64 v2))]) 0 hm O ?_;clear hm;rintro v2 nx3 base h hm O;refine gX ?_;refine br hm (fun hm=>?_) fun hm=>?_
  ·refine gX ?_;refine atF hm fun x4 hx4 hm=>?_;refine gX ?_;refine br hm (fun hm=>?_) fun hm=>?_
   ·refine gX ?_;exact fe hm O
   ·refine gX ?_;refine aH hm fun hm=>?_;refine gH ?_;exact jx (v2+1) hm O
  ·refine gX ?_;exact jx () hm O
 ·clear hm;rintro _ base h hm O;refine gX ?_;exact fe hm O
def dV (p0:(List Nat)) (p1:Nat) (K:Bool->Prop):Prop :=
 jE p0 p1 (fun r1=>K (!ltI r1 (Int.ofNat 0)))
theorem pO {p0:(List Nat)}{p1:Nat}{K:Bool->Prop} (hm:dV p0 p1 K) {h0:Heap} (hB:HasB vars h0):∃ r,K r/\CallD Tryz.prog NG 167 ⟨[(ah 1 n8) p0,n8 p1]⟩ h0 (Value.bool r) h0:=by
 unfold dV at hm
 refine fw Tryz.func167 hB (enc:=Value.bool) (fun r=>PureV.flat rfl) fun O=>?_;conv=>whnf
 refine gX ?_;refine ca (vi hm O.has) fun r1 hm=>?_;refine gX ?_;exact fe hm O
def gh (p0:(List Nat)) (c:Circ) (K:Int->Prop):Prop :=
 an (α:=Unit) (fun k1=>aF (S:=Nat) (fun v2 nx3=>((ltN v2 p0.length)=true->∃ x4,p0[v2]?=some x4/\((ltN x4 0)=true->K (Int.ofNat v2))/\((ltN x4 0)=false->((!ltN x4 c.nodes.length)=true->K (Int.ofNat v2))/\((!ltN x4 c.nodes.length)=false->v2+1<2 ^ 63/\nx3 (v2+1))))/\((ltN v2 p0.length)=false->k1 ())) 0) (fun _=>K (Int.negSucc 0))
theorem qZ {p0:(List Nat)}{c:Circ}{K:Int->Prop} (hm:gh p0 c K) {h0:Heap} (hB:HasB vars h0):∃ r,K r/\CallD Tryz.prog NG 177 ⟨[(ah 1 i64) p0,(.func (.func 260) ⟨[]⟩ ⟨[(FP (ar c))]⟩)]⟩ h0 (z64 r) h0:=by
 unfold gh at hm
 refine fw Tryz.func177 hB (enc:=z64) (fun r=>PureV.flat rfl) fun O=>?_;conv=>whnf
 apply Cs;conv=>whnf
 apply Cs;refine gH ?_;refine jn hm 19 [] (fun s=>s) (fun _ h=>Own vars h0 [] h) (fun _=>[]) (fun hm=>?_) ?_
 ·refine gX ?_;refine lw 19 [0,1,7] (σ:=Nat) (fun s=>s) (fun v2 h=>Own vars h0 [] h) (fun v2=>[(8,(i64 v2))]) 0 hm O ?_;clear hm;rintro v2 nx3 base h hm O;refine gX ?_;refine br hm (fun hm=>?_) fun hm=>?_
  ·refine gX ?_;refine atF hm fun x4 hx4 hm=>?_;refine gH ?_;refine fg Tryz.func260 ?_;refine gX ?_;refine br hm (fun hm=>?_) fun hm=>?_
   ·refine gX ?_;refine bt ?_;refine gX ?_;exact fe hm O
   ·refine gX ?_;refine br hm (fun hm=>?_) fun hm=>?_
    ·refine gX ?_;exact fe hm O
    ·refine gX ?_;refine aH hm fun hm=>?_;refine gH ?_;exact jx (v2+1) hm O
  ·refine gX ?_;exact jx () hm O
 ·clear hm;rintro _ base h hm O;refine gX ?_;exact fe hm O
def cJ (p0:(List Nat)) (c:Circ) (K:Bool->Prop):Prop :=
 gh p0 c (fun r1=>K (!ltI r1 (Int.ofNat 0)))
theorem fE {p0:(List Nat)}{c:Circ}{K:Bool->Prop} (hm:cJ p0 c K) {h0:Heap} (hB:HasB vars h0):∃ r,K r/\CallD Tryz.prog NG 105 ⟨[(ah 1 i64) p0,(.func (.func 260) ⟨[]⟩ ⟨[(FP (ar c))]⟩)]⟩ h0 (Value.bool r) h0:=by
 unfold cJ at hm
 refine fw Tryz.func105 hB (enc:=Value.bool) (fun r=>PureV.flat rfl) fun O=>?_;conv=>whnf
 refine gX ?_;refine ca (qZ hm O.has) fun r1 hm=>?_;refine gX ?_;exact fe hm O
def iA (p0:(List Nat)) (c:Circ) (K:Int->Prop):Prop :=
 an (α:=Unit) (fun k1=>aF (S:=Nat) (fun v2 nx3=>((ltN v2 p0.length)=true->∃ x4,p0[v2]?=some x4/\∃ x5,c.nodes[x4]?=some x5/\((neN x5.kind 12)=true->K (Int.ofNat v2))/\((neN x5.kind 12)=false->v2+1<2 ^ 63/\nx3 (v2+1)))/\((ltN v2 p0.length)=false->k1 ())) 0) (fun _=>K (Int.negSucc 0))
theorem sx {p0:(List Nat)}{c:Circ}{K:Int->Prop} (hm:iA p0 c K) {h0:Heap} (hB:HasB vars h0):∃ r,K r/\CallD Tryz.prog NG 177 ⟨[(ah 1 i64) p0,(.func (.func 256) ⟨[]⟩ ⟨[(FP (ar c))]⟩)]⟩ h0 (z64 r) h0:=by
 unfold iA at hm
 refine fw Tryz.func177 hB (enc:=z64) (fun r=>PureV.flat rfl) fun O=>?_;conv=>whnf
 apply Cs;conv=>whnf
 apply Cs;refine gH ?_;refine jn hm 19 [] (fun s=>s) (fun _ h=>Own vars h0 [] h) (fun _=>[]) (fun hm=>?_) ?_
 ·refine gX ?_;refine lw 19 [0,1,7] (σ:=Nat) (fun s=>s) (fun v2 h=>Own vars h0 [] h) (fun v2=>[(8,(i64 v2))]) 0 hm O ?_;clear hm;rintro v2 nx3 base h hm O;refine gX ?_;refine br hm (fun hm=>?_) fun hm=>?_
  ·refine gX ?_;refine atF hm fun x4 hx4 hm=>?_;refine gH ?_;refine fg Tryz.func256 ?_;refine gX ?_;refine atF hm fun x5 hx5 hm=>?_;refine gX ?_;refine br hm (fun hm=>?_) fun hm=>?_
   ·refine gX ?_;exact fe hm O
   ·refine gX ?_;refine aH hm fun hm=>?_;refine gH ?_;exact jx (v2+1) hm O
  ·refine gX ?_;exact jx () hm O
 ·clear hm;rintro _ base h hm O;refine gX ?_;exact fe hm O
def gP (p0:(List Nat)) (c:Circ) (K:Bool->Prop):Prop :=
 iA p0 c (fun r1=>K (!ltI r1 (Int.ofNat 0)))
theorem tf {p0:(List Nat)}{c:Circ}{K:Bool->Prop} (hm:gP p0 c K) {h0:Heap} (hB:HasB vars h0):∃ r,K r/\CallD Tryz.prog NG 105 ⟨[(ah 1 i64) p0,(.func (.func 256) ⟨[]⟩ ⟨[(FP (ar c))]⟩)]⟩ h0 (Value.bool r) h0:=by
 unfold gP at hm
 refine fw Tryz.func105 hB (enc:=Value.bool) (fun r=>PureV.flat rfl) fun O=>?_;conv=>whnf
 refine gX ?_;refine ca (sx hm O.has) fun r1 hm=>?_;refine gX ?_;exact fe hm O
def cL (p0:Nat) (K:Bool->Prop):Prop :=
 ((!ltN p0 1)=true->K (!ltN 13 p0))/\((!ltN p0 1)=false->K false)
theorem jZ {p0:Nat}{K:Bool->Prop} (hm:cL p0 K) {h0:Heap} (hB:HasB vars h0):∃ r,K r/\CallD Tryz.prog NG 40 ⟨[n8 p0]⟩ h0 (Value.bool r) h0:=by
 unfold cL at hm
 refine fw Tryz.func40 hB (enc:=Value.bool) (fun r=>PureV.flat rfl) fun O=>?_;conv=>whnf
 refine gX ?_;refine br hm (fun hm=>?_) fun hm=>?_
 ·refine gX ?_;exact fe hm O
 ·refine gX ?_;exact fe hm O
def da (p0:Circ) (p1:Node) (K:Bool->Prop):Prop :=
 ((neN p1.kind 15)=true->((eqN p1.mem 0)=true->K (eqN p1.bit 0))/\((eqN p1.mem 0)=false->K false))/\((neN p1.kind 15)=false->((!ltN p1.mem 0)=true->((ltN p1.mem p0.mems.length)=true->((!ltN p1.bit 0)=true->∃ x1,p0.mems[p1.mem]?=some x1/\K (ltN p1.bit x1.data.length))/\((!ltN p1.bit 0)=false->K false))/\((ltN p1.mem p0.mems.length)=false->K false))/\((!ltN p1.mem 0)=false->K false))
theorem pV {p0:Circ}{p1:Node}{K:Bool->Prop} (hm:da p0 p1 K) {h0:Heap} (hB:HasB vars h0):∃ r,K r/\CallD Tryz.prog NG 257 ⟨[ar p0,aj p1]⟩ h0 (Value.bool r) h0:=by
 unfold da at hm
 refine fw Tryz.func257 hB (enc:=Value.bool) (fun r=>PureV.flat rfl) fun O=>?_;conv=>whnf
 refine gX ?_;refine fz ?_;refine gH ?_;refine fz ?_;refine gX ?_;refine br hm (fun hm=>?_) fun hm=>?_
 ·refine gX ?_;refine br hm (fun hm=>?_) fun hm=>?_
  ·refine gX ?_;exact fe hm O
  ·refine gX ?_;exact fe hm O
 ·refine gX ?_;refine br hm (fun hm=>?_) fun hm=>?_
  ·refine gX ?_;refine dF ?_;refine gX ?_;refine br hm (fun hm=>?_) fun hm=>?_
   ·refine gX ?_;refine br hm (fun hm=>?_) fun hm=>?_
    ·refine gX ?_;refine dF ?_;refine gX ?_;refine atF hm fun x1 hx1 hm=>?_;refine gH ?_;refine dF ?_;refine gX ?_;exact fe hm O
    ·refine gX ?_;exact fe hm O
   ·refine gX ?_;refine bf ?_;refine gX ?_;exact fe hm O
  ·refine gX ?_;refine bf ?_;refine gH ?_;refine bf ?_;refine gX ?_;exact fe hm O
def dy (p0:Circ) (p1:Node) (K:Nat->Prop):Prop :=
 gV p1.kind (fun r1=>((ltN 15 p1.kind)=true->K 7)/\((ltN 15 p1.kind)=false->an (α:=Bool) (fun k3=>((ltN p1.ins.length r1.1)=true->k3 true)/\((ltN p1.ins.length r1.1)=false->k3 (ltI r1.2 (Int.ofNat p1.ins.length)))) (fun v2=>(v2=true->K 8)/\(v2=false->cJ p1.ins p0 (fun r4=>(r4=true->K 1)/\(r4=false->an (α:=Bool) (fun k6=>((eqN p1.kind 13)=true->gP p1.ins p0 (fun r7=>k6 r7))/\((eqN p1.kind 13)=false->k6 false)) (fun v5=>(v5=true->K 7)/\(v5=false->da p0 p1 (fun r8=>((!r8)=true->K 1)/\((!r8)=false->K 0))))))))))
theorem pj {p0:Circ}{p1:Node}{K:Nat->Prop} (hm:dy p0 p1 K) {h0:Heap} (hB:HasB vars h0):∃ r,K r/\CallD Tryz.prog NG 210 ⟨[ar p0,aj p1]⟩ h0 (i64 r) h0:=by
 unfold dy at hm
 refine fw Tryz.func210 hB (enc:=i64) (fun r=>PureV.flat rfl) fun O=>?_;conv=>whnf
 refine gX ?_;refine fz ?_;refine gH ?_;refine fz ?_;refine gX ?_;refine ca (kS hm O.has) fun r1 hm=>?_;refine gX ?_;refine br hm (fun hm=>?_) fun hm=>?_
 ·refine gX ?_;exact fe hm O
 ·refine jn hm 53 [2,3,7] (fun s=>s) (fun v2 h=>Own vars h0 [] h) (fun v2=>[(19,(.bool v2))]) (fun hm=>?_) ?_
  ·refine gX ?_;refine br hm (fun hm=>?_) fun hm=>?_
   ·refine gX ?_;exact jx true hm O
   ·refine gX ?_;exact jx (ltI r1.2 (Int.ofNat p1.ins.length)) hm O
  ·clear hm;rintro v2 base h hm O;refine gX ?_;refine br hm (fun hm=>?_) fun hm=>?_
   ·refine gX ?_;exact fe hm O
   ·refine gX ?_;refine dF ?_;refine gX ?_;refine dF ?_;refine gX ?_;refine fg Tryz.func213 ?_;refine gX ?_;refine fz ?_;refine gX ?_;refine⟨.inl (Ext.refl _),?_⟩;refine gH ?_;refine ca (fE hm O.has) fun r4 hm=>?_;refine gH ?_;refine⟨.inl (Ext.refl _),?_⟩;refine gH ?_;refine gX ?_;refine br hm (fun hm=>?_) fun hm=>?_
    ·refine gX ?_;exact fe hm O
    ·refine jn hm 53 [2,3] (fun s=>s) (fun v5 h=>Own vars h0 [] h) (fun v5=>[(38,(.bool v5))]) (fun hm=>?_) ?_
     ·refine gX ?_;refine br hm (fun hm=>?_) fun hm=>?_
      ·refine gX ?_;refine ca (tf hm O.has) fun r7 hm=>?_;refine gH ?_;exact jx r7 hm O
      ·refine gX ?_;exact jx false hm O
     ·clear hm;rintro v5 base h hm O;refine gX ?_;refine br hm (fun hm=>?_) fun hm=>?_
      ·refine gX ?_;exact fe hm O
      ·refine gX ?_;refine ca (pV hm O.has) fun r8 hm=>?_;refine gX ?_;refine br hm (fun hm=>?_) fun hm=>?_
       ·refine gX ?_;exact fe hm O
       ·refine gX ?_;exact fe hm O
def cT (p0:Circ) (p1:Memo) (K:Nat->Prop):Prop :=
 an (α:=Bool) (fun k2=>((eqN p1.addr.length 0)=true->k2 true)/\((eqN p1.addr.length 0)=false->((ltN 8 p1.addr.length)=true->k2 true)/\((ltN 8 p1.addr.length)=false->((eqN p1.data.length 0)=true->k2 true)/\((eqN p1.data.length 0)=false->k2 (ltN 32 p1.data.length))))) (fun v1=>(v1=true->K 8)/\(v1=false->an (α:=Bool) (fun k4=>cJ p1.addr p0 (fun r5=>(r5=true->k4 true)/\(r5=false->cJ p1.data p0 (fun r6=>(r6=true->k4 true)/\(r6=false->((ltN p1.write 0)=true->k4 true)/\((ltN p1.write 0)=false->k4 (!ltN p1.write p0.nodes.length))))))) (fun v3=>(v3=true->K 1)/\(v3=false->K 0))))
theorem mY {p0:Circ}{p1:Memo}{K:Nat->Prop} (hm:cT p0 p1 K) {h0:Heap} (hB:HasB vars h0):∃ r,K r/\CallD Tryz.prog NG 212 ⟨[ar p0,aD p1]⟩ h0 (i64 r) h0:=by
 unfold cT at hm
 refine fw Tryz.func212 hB (enc:=i64) (fun r=>PureV.flat rfl) fun O=>?_;conv=>whnf
 refine gX ?_;refine fz ?_;refine gH ?_;refine fz ?_;refine gX ?_;refine fg Tryz.func213 ?_;refine gX ?_;refine fz ?_;refine gH ?_
 apply Cs;conv=>whnf
 apply Cs;refine gH ?_
 apply Cs;conv=>whnf
 refine gH ?_
 apply Cs;conv=>whnf
 apply Cs;conv=>whnf
 refine jn hm 37 [3,6] (fun s=>s) (fun v1 h=>Own vars h0 [] h) (fun v1=>[(9,(.bool v1))]) (fun hm=>?_) ?_
 ·refine gX ?_;refine fg Tryz.func259 ?_;refine gX ?_;refine br hm (fun hm=>?_) fun hm=>?_
  ·refine gX ?_;refine bt ?_;refine gH ?_;exact jx true hm O
  ·refine gX ?_;refine br hm (fun hm=>?_) fun hm=>?_
   ·refine gX ?_;exact jx true hm O
   ·refine gX ?_;refine fg Tryz.func259 ?_;refine gX ?_;refine br hm (fun hm=>?_) fun hm=>?_
    ·refine gX ?_;exact jx true hm O
    ·refine gX ?_;exact jx (ltN 32 p1.data.length) hm O
 ·clear hm;rintro v1 base h hm O;refine gX ?_;refine br hm (fun hm=>?_) fun hm=>?_
  ·refine gX ?_;exact fe hm O
  ·refine jn hm 37 [] (fun s=>s) (fun v3 h=>Own vars h0 [] h) (fun v3=>[(20,(.bool v3))]) (fun hm=>?_) ?_
   ·refine gX ?_;refine ca (fE hm O.has) fun r5 hm=>?_;refine gH ?_;refine br hm (fun hm=>?_) fun hm=>?_
    ·refine gX ?_;refine bt ?_;refine gH ?_;exact jx true hm O
    ·refine gX ?_;refine ca (fE hm O.has) fun r6 hm=>?_;refine gH ?_;refine br hm (fun hm=>?_) fun hm=>?_
     ·refine gX ?_;exact jx true hm O
     ·refine gX ?_;refine fg Tryz.func260 ?_;refine gX ?_;refine br hm (fun hm=>?_) fun hm=>?_
      ·refine gX ?_;exact jx true hm O
      ·refine gX ?_;exact jx (!ltN p1.write p0.nodes.length) hm O
   ·clear hm;rintro v3 base h hm O;refine gX ?_;refine br hm (fun hm=>?_) fun hm=>?_
    ·refine gX ?_;exact fe hm O
    ·refine gX ?_;exact fe hm O
def di (p0:Circ) (K:Nat->Prop):Prop :=
 an (α:=Bool) (fun k2=>((ltN 16384 p0.nodes.length)=true->k2 true)/\((ltN 16384 p0.nodes.length)=false->((ltN 16 p0.mems.length)=true->k2 true)/\((ltN 16 p0.mems.length)=false->k2 (ltN 16384 p0.outs.length)))) (fun v1=>(v1=true->K 3)/\(v1=false->((neN p0.names.length p0.nodes.length)=true->K 8)/\((neN p0.names.length p0.nodes.length)=false->an (α:=Unit) (fun k3=>aF (S:=Nat) (fun v4 nx5=>((ltN v4 p0.nodes.length)=true->∃ x6,p0.nodes[v4]?=some x6/\dy p0 x6 (fun r9=>((neN r9 0)=true->K r9)/\((neN r9 0)=false->v4+1<2 ^ 63/\nx5 (v4+1))))/\((ltN v4 p0.nodes.length)=false->k3 ())) 0) (fun _=>fZ p0 (fun r10=>((neN r10 0)=true->K r10)/\((neN r10 0)=false->an (α:=Unit) (fun k11=>aF (S:=Nat) (fun v12 nx13=>((ltN v12 p0.mems.length)=true->∃ x14,p0.mems[v12]?=some x14/\cT p0 x14 (fun r17=>((neN r17 0)=true->K r17)/\((neN r17 0)=false->v12+1<2 ^ 63/\nx13 (v12+1))))/\((ltN v12 p0.mems.length)=false->k11 ())) 0) (fun _=>cJ p0.outs p0 (fun r18=>(r18=true->K 1)/\(r18=false->K 0)))))))))
theorem od {p0:Circ}{K:Nat->Prop} (hm:di p0 K) {h0:Heap} (hB:HasB vars h0):∃ r,K r/\CallD Tryz.prog NG 162 ⟨[ar p0]⟩ h0 (i64 r) h0:=by
 unfold di at hm
 refine fw Tryz.func162 hB (enc:=i64) (fun r=>PureV.flat rfl) fun O=>?_;conv=>whnf
 refine gX ?_;refine fz ?_;refine gH ?_
 apply Cs;conv=>whnf
 apply Cs;conv=>whnf
 refine jn hm 73 [1] (fun s=>s) (fun v1 h=>Own vars h0 [] h) (fun v1=>[(10,(.bool v1))]) (fun hm=>?_) ?_
 ·refine gX ?_;refine br hm (fun hm=>?_) fun hm=>?_
  ·refine gX ?_;refine bt ?_;refine gH ?_;exact jx true hm O
  ·refine gX ?_;refine br hm (fun hm=>?_) fun hm=>?_
   ·refine gX ?_;exact jx true hm O
   ·refine gX ?_;exact jx (ltN 16384 p0.outs.length) hm O
 ·clear hm;rintro v1 base h hm O;refine gX ?_;refine br hm (fun hm=>?_) fun hm=>?_
  ·refine gX ?_;exact fe hm O
  ·refine gX ?_;refine br hm (fun hm=>?_) fun hm=>?_
   ·refine gX ?_;exact fe hm O
   ·apply Cs;conv=>whnf
    refine jn hm 73 [1] (fun s=>s) (fun _ h=>Own vars h0 [] h) (fun _=>[]) (fun hm=>?_) ?_
    ·refine gX ?_;refine lw 73 [1,36,37] (σ:=Nat) (fun s=>s) (fun v4 h=>Own vars h0 [] h) (fun v4=>[(38,(i64 v4))]) 0 hm O ?_;clear hm;rintro v4 nx5 base h hm O;refine gX ?_;refine br hm (fun hm=>?_) fun hm=>?_
     ·refine gX ?_;refine atF hm fun x6 hx6 hm=>?_;refine gH ?_;refine O.new (ai (l:=[(n8 0),nS,(i64 0),(i64 0)]) rfl rfl rfl) fun g7 h O=>?_;refine gH ?_;refine O.stC 4 (.head _) [(n8 x6.kind),((ah 1 i64) x6.ins),(i64 x6.mem),(i64 x6.bit)] fun h O=>?_;refine gX ?_;refine ldA O.i0 ?_;refine gH ?_;refine ca (pj hm O.has) fun r9 hm=>?_;refine gX ?_;refine br hm (fun hm=>?_) fun hm=>?_
      ·refine gX ?_;exact fe hm O
      ·refine gX ?_;refine aH hm fun hm=>?_;refine gH ?_;exact jx (v4+1) hm (O.sel [] (by decide))
     ·refine gX ?_;exact jx () hm O
    ·clear hm;rintro _ base h hm O;refine gX ?_;refine ca (oe hm O.has) fun r10 hm=>?_;refine gX ?_;refine br hm (fun hm=>?_) fun hm=>?_
     ·refine gX ?_;exact fe hm O
     ·apply Cs;conv=>whnf
      refine jn hm 73 [1] (fun s=>s) (fun _ h=>Own vars h0 [] h) (fun _=>[]) (fun hm=>?_) ?_
      ·refine gX ?_;refine lw 73 [1,55,56] (σ:=Nat) (fun s=>s) (fun v12 h=>Own vars h0 [] h) (fun v12=>[(57,(i64 v12))]) 0 hm O ?_;clear hm;rintro v12 nx13 base h hm O;refine gX ?_;refine br hm (fun hm=>?_) fun hm=>?_
       ·refine gX ?_;refine atF hm fun x14 hx14 hm=>?_;refine gH ?_;refine O.new (ai (l:=[nS,nS,(i64 0)]) rfl rfl rfl) fun g15 h O=>?_;refine gH ?_;refine O.stC 3 (.head _) [((ah 1 i64) x14.addr),((ah 1 i64) x14.data),(i64 x14.write)] fun h O=>?_;refine gX ?_;refine ldA O.i0 ?_;refine gH ?_;refine ca (mY hm O.has) fun r17 hm=>?_;refine gX ?_;refine br hm (fun hm=>?_) fun hm=>?_
        ·refine gX ?_;exact fe hm O
        ·refine gX ?_;refine aH hm fun hm=>?_;refine gH ?_;exact jx (v12+1) hm (O.sel [] (by decide))
       ·refine gX ?_;exact jx () hm O
      ·clear hm;rintro _ base h hm O;refine gX ?_;refine dF ?_;refine gX ?_;refine dF ?_;refine gX ?_;refine fg Tryz.func213 ?_;refine gX ?_;refine fz ?_;refine gX ?_;refine⟨.inl (Ext.refl _),?_⟩;refine gH ?_;refine ca (fE hm O.has) fun r18 hm=>?_;refine gH ?_;refine⟨.inl (Ext.refl _),?_⟩;refine gH ?_;refine gX ?_;refine br hm (fun hm=>?_) fun hm=>?_
       ·refine gX ?_;exact fe hm O
       ·refine gX ?_;exact fe hm O
def cO (p0:Circ) (p1:(List Nat)) (K:(List Nat)->Prop):Prop :=
 an (α:=(List Nat)) (fun k5=>aF (S:=((List Nat)×Nat)) (fun (v7,v8) nx10=>((ltN v8 p0.nodes.length)=true->an (α:=(List Nat)) (fun k14=>∃ x15,p0.nodes[v8]?=some x15/\dV p1 x15.kind (fun r18=>(r18=true->(v7.length+([v8]:(List Nat)).length)*8<=2 ^ 47/\k14 (v7++([v8]:(List Nat))))/\(r18=false->k14 v7))) (fun v12=>v8+1<2 ^ 63/\nx10 (v12,(v8+1))))/\((ltN v8 p0.nodes.length)=false->k5 v7)) (([]:List Nat),0)) (fun v3=>K v3)
theorem il {p0:Circ}{p1:(List Nat)}{K:(List Nat)->Prop} (hm:cO p0 p1 K) {h0:Heap} (hB:HasB vars h0):∃ r,K r/\CallD Tryz.prog NG 85 ⟨[ar p0,(ah 1 n8) p1]⟩ h0 ((ah 1 i64) r) h0:=by
 unfold cO at hm
 refine fw Tryz.func85 hB (enc:=(ah 1 i64)) (fun r=>cF (fun _=>AllPure.cons (PureV.flat rfl) AllPure.nil)) fun O=>?_;conv=>whnf
 refine gX ?_;refine fz ?_;refine gH ?_
 apply Cs;conv=>whnf
 apply Cs;refine gH ?_;have O:=O.bC (.cells (flatC ((([]:List Nat)).map i64)) false);refine jn (σ:=(List Nat)×Option Nat) hm 27 [] (fun s=>s.1) (fun (v3,a2) h=>(a2=none->v3=[])/\Own vars h0 [(a2,.cells (flatC (v3.map i64)) false)] h) (fun (v3,a2)=>[(5,(ae 1 a2 (v3.map i64)))]) (fun hm=>?_) ?_
 ·refine gX ?_;refine lw 27 [1,9,10] (σ:=((List Nat)×Nat)×Option Nat) (fun s=>s.1) (fun ((v7,v8),a6) h=>(a6=none->v7=[])/\Own vars h0 [(a6,.cells (flatC (v7.map i64)) false)] h) (fun ((v7,v8),a6)=>[(5,(ae 1 a6 (v7.map i64))),(11,(i64 v8))]) ((([]:List Nat),0),none) hm ⟨(fun _=>rfl),O⟩ ?_;clear hm;rintro⟨⟨v7,v8⟩,a6⟩ nx10 base h hm ⟨ha9,O⟩;refine gX ?_;refine br hm (fun hm=>?_) fun hm=>?_
  ·apply Cs;conv=>whnf
   refine jn (σ:=(List Nat)×Option Nat) hm 27 [1,9,10,11] (fun s=>s.1) (fun (v12,a11) h=>(a11=none->v12=[])/\Own vars h0 [(a11,.cells (flatC (v12.map i64)) false)] h) (fun (v12,a11)=>[(5,(ae 1 a11 (v12.map i64)))]) (fun hm=>?_) ?_
   ·refine gX ?_;refine atF hm fun x15 hx15 hm=>?_;refine gH ?_;refine O.new (ai (l:=[(n8 0),nS,(i64 0),(i64 0)]) rfl rfl rfl) fun g16 h O=>?_;refine gH ?_;refine O.stC 4 (.head _) [(n8 x15.kind),((ah 1 i64) x15.ins),(i64 x15.mem),(i64 x15.bit)] fun h O=>?_;refine gX ?_;refine ca (pO hm O.has) fun r18 hm=>?_;refine gX ?_;refine br hm (fun hm=>?_) fun hm=>?_
    ·refine gX ?_;refine fz ?_;refine gH ?_;refine O.apL (enc:=i64) (l:=v7) (new:=([v8]:(List Nat))) 1 (.tail _ (.head _)) ha9 hm fun a19 h ha20 O hm=>?_;refine gH ?_;exact jx ((v7++([v8]:(List Nat))),a19) hm ⟨ha20,(O.sel [1] (by decide))⟩
    ·refine gX ?_;exact jx (v7,a6) hm ⟨ha9,(O.sel [1] (by decide))⟩
   ·clear hm;rintro⟨v12,a11⟩ base h hm ⟨ha13,O⟩;refine gX ?_;refine aH hm fun hm=>?_;refine gH ?_;exact jx ((v12,(v8+1)),a11) hm ⟨ha13,O⟩
  ·refine gX ?_;exact jx (v7,a6) hm ⟨ha9,O⟩
 ·clear hm;rintro⟨v3,a2⟩ base h hm ⟨ha4,O⟩;refine gX ?_;refine fg Tryz.func76 ?_;refine gX ?_;refine ui (s:=1) (enc:=i64) (l:=v3) (n:=v3.length) (m:=v3.length) rfl rfl rfl rfl rfl rfl rfl ?_;refine gX ?_;exact⟨v3,hm,O.ext,fun h2 F=>O.B0 F (Nat.le_refl _) (.head _) ha4 (fun _=>rfl)⟩
def ck (p0:Circ) (K:((List Nat)×Nat)->Prop):Prop :=
 di p0 (fun r1=>((neN r1 0)=true->K ([],r1))/\((neN r1 0)=false->8*p0.nodes.length<=2 ^ 48/\p0.nodes.length<2 ^ 63/\8*p0.nodes.length<=2 ^ 48/\p0.nodes.length<2 ^ 63/\an (α:=((List Nat)×(List Nat))) (fun k11=>aF (S:=((List Nat)×(List Nat)×Nat)) (fun (v12,v14,v15) nx17=>((ltN v15 p0.nodes.length)=true->an (α:=((List Nat)×(List Nat))) (fun k22=>∃ x23,p0.nodes[v15]?=some x23/\an (α:=(List Nat)) (fun k28=>cL x23.kind (fun r29=>(r29=true->v15<p0.nodes.length/\∃ x30,v12[v15]?=some x30/\k28 (v12.set v15 x23.ins.length))/\(r29=false->k28 v12))) (fun v26=>v15<p0.nodes.length/\∃ x31,v26[v15]?=some x31/\((eqN x31 0)=true->(v14.length+([v15]:(List Nat)).length)*8<=2 ^ 47/\k22 (v26,(v14++([v15]:(List Nat)))))/\((eqN x31 0)=false->k22 (v26,v14)))) (fun (v18,v20)=>v15+1<2 ^ 63/\nx17 (v18,v20,(v15+1))))/\((ltN v15 p0.nodes.length)=false->k11 (v12,v14))) ((List.replicate p0.nodes.length (0:Nat)),([]:List Nat),0)) (fun (v7,v9)=>fK p0 (fun r34=>an (α:=((List Nat)×Nat)) (fun k37=>aF (S:=((List Nat)×(List Nat)×(List Nat)×Nat)) (fun (v38,v39,v41,v42) nx44=>((ltN v42 v41.length)=true->∃ x45,v41[v42]?=some x45/\v42+1<2 ^ 63/\∃ x47,r34[x45]?=some x47/\((eqN x47.length 0)=true->nx44 (v38,v39,v41,(v42+1)))/\((eqN x47.length 0)=false->∃ x48,r34[x45]?=some x48/\aF (S:=((List Nat)×(List Nat)×(List Nat)×Nat)) (fun (v49,v50,v52,v53) nx55=>((ltN v53 x48.length)=true->an (α:=((List Nat)×(List Nat)×(List Nat))) (fun k61=>∃ x62,x48[v53]?=some x62/\∃ x65,p0.nodes[x62.node]?=some x65/\cL x65.kind (fun r66=>((!r66)=true->k61 (v49,v50,v52))/\((!r66)=false->x62.node<p0.nodes.length/\∃ x67,v49[x62.node]?=some x67/\x45<p0.nodes.length/\∃ x68,v49[x45]?=some x68/\x68+1<2 ^ 63/\x62.node<p0.nodes.length/\∃ x69,v49[x62.node]?=some x69/\x62.node<p0.nodes.length/\∃ x70,v50[x62.node]?=some x70/\1<=x70/\x70<2 ^ 63/\x62.node<p0.nodes.length/\∃ x71,v50[x62.node]?=some x71/\x62.node<p0.nodes.length/\∃ x72,(v50.set x62.node (x70-1))[x62.node]?=some x72/\((eqN x72 0)=true->(v52.length+([x62.node]:(List Nat)).length)*8<=2 ^ 47/\k61 ((v49.set x62.node (max x67 (x68+1))),(v50.set x62.node (x70-1)),(v52++([x62.node]:(List Nat)))))/\((eqN x72 0)=false->k61 ((v49.set x62.node (max x67 (x68+1))),(v50.set x62.node (x70-1)),v52))))) (fun (v56,v57,v59)=>v53+1<2 ^ 63/\nx55 (v56,v57,v59,(v53+1))))/\((ltN v53 x48.length)=false->nx44 (v49,v50,v52,(v42+1)))) (v38,v39,v41,0)))/\((ltN v42 v41.length)=false->k37 (v38,v42))) ((List.replicate p0.nodes.length (0:Nat)),v7,v9,0)) (fun (v35,v36)=>((ltN v36 p0.nodes.length)=true->K ([],6))/\((ltN v36 p0.nodes.length)=false->p0.nodes.length=v35.length/\K (v35,0)))))))
theorem iL {p0:Circ}{K:((List Nat)×Nat)->Prop} (hm:ck p0 K) {h0:Heap} (hB:HasB vars h0):∃ r,K r/\CallD Tryz.prog NG 80 ⟨[ar p0]⟩ h0 ((fun (r:((List Nat)×Nat))=>Value.tuple ⟨[(ah 1 i64) (r.1),i64 (r.2)]⟩) r) h0:=by
 unfold ck at hm
 refine fw Tryz.func80 hB (enc:=(fun (r:((List Nat)×Nat))=>Value.tuple ⟨[(ah 1 i64) (r.1),i64 (r.2)]⟩)) (fun r=>PureV.tup (AllPure.cons (cF (fun _=>AllPure.cons (PureV.flat rfl) AllPure.nil)) (AllPure.cons (PureV.flat rfl) (AllPure.nil)))) fun O=>?_;conv=>whnf
 refine gX ?_;refine fz ?_;refine gX ?_;refine ca (od hm O.has) fun r1 hm=>?_;refine gX ?_;refine br hm (fun hm=>?_) fun hm=>?_
 ·refine gX ?_;exact⟨([],r1),hm,O.ext,fun h2 F=>VLe.tup (LLe.cons (VLe.nil _ _) (LLe.cons (VLe.refl _ _) (LLe.nil _)))⟩
 ·refine gX ?_;refine O.mkL (enc:=i64) 8 1 0 hm fun g2 h O hm=>?_;refine gX ?_;refine O.mkL (enc:=i64) 8 1 0 hm fun g4 h O hm=>?_;refine gH ?_
  apply Cs;conv=>whnf
  apply Cs;refine gH ?_;have O:=O.bC (.cells (flatC ((([]:List Nat)).map i64)) false);refine jn (σ:=((List Nat)×(List Nat))×Option Nat) hm 131 [1,5,6] (fun s=>s.1) (fun ((v7,v9),a8) h=>(a8=none->v9=[])/\Own vars h0 [(sC g2 (flatC ((List.replicate p0.nodes.length (0:Nat)).map i64))),(sC g4 (flatC (v7.map i64))),(a8,.cells (flatC (v9.map i64)) false)] h) (fun ((v7,v9),a8)=>[(7,(ae 1 a8 (v9.map i64)))]) (fun hm=>?_) ?_
  ·refine gX ?_;refine lw 131 [1,5,6,29,30] (σ:=((List Nat)×(List Nat)×Nat)×Option Nat) (fun s=>s.1) (fun ((v12,v14,v15),a13) h=>(a13=none->v14=[])/\Own vars h0 [(sC g2 (flatC ((List.replicate p0.nodes.length (0:Nat)).map i64))),(sC g4 (flatC (v12.map i64))),(a13,.cells (flatC (v14.map i64)) false)] h) (fun ((v12,v14,v15),a13)=>[(7,(ae 1 a13 (v14.map i64))),(31,(i64 v15))]) (((List.replicate p0.nodes.length (0:Nat)),([]:List Nat),0),none) hm ⟨(fun _=>rfl),(O.sel [2,1,0] (by decide))⟩ ?_;clear hm;rintro⟨⟨v12,v14,v15⟩,a13⟩ nx17 base h hm ⟨ha16,O⟩;refine gX ?_;refine br hm (fun hm=>?_) fun hm=>?_
   ·apply Cs;conv=>whnf
    refine jn (σ:=((List Nat)×(List Nat))×Option Nat) hm 131 [1,5,6,29,30,31] (fun s=>s.1) (fun ((v18,v20),a19) h=>(a19=none->v20=[])/\Own vars h0 [(sC g2 (flatC ((List.replicate p0.nodes.length (0:Nat)).map i64))),(sC g4 (flatC (v18.map i64))),(a19,.cells (flatC (v20.map i64)) false)] h) (fun ((v18,v20),a19)=>[(7,(ae 1 a19 (v20.map i64)))]) (fun hm=>?_) ?_
    ·refine gX ?_;refine atF hm fun x23 hx23 hm=>?_;refine gH ?_;refine O.new (ai (l:=[(n8 0),nS,(i64 0),(i64 0)]) rfl rfl rfl) fun g24 h O=>?_;refine gH ?_;refine O.stC 4 (.head _) [(n8 x23.kind),((ah 1 i64) x23.ins),(i64 x23.mem),(i64 x23.bit)] fun h O=>?_;refine gH ?_;refine jn hm 131 [1,5,6,7,8,29,30,31] (fun s=>s) (fun v26 h=>(a13=none->v14=[])/\Own vars h0 [(sC g2 (flatC ((List.replicate p0.nodes.length (0:Nat)).map i64))),(sC g4 (flatC (v26.map i64))),(a13,.cells (flatC (v14.map i64)) false)] h) (fun v26=>[]) (fun hm=>?_) ?_
     ·refine gX ?_;refine ca (jZ hm O.has) fun r29 hm=>?_;refine gX ?_;refine br hm (fun hm=>?_) fun hm=>?_
      ·refine gX ?_;refine ix 1 hm fun x30 hx30 hm=>?_;refine gH ?_;refine O.stE 1 (.tail _ (.tail _ (.head _))) hx30 x23.ins.length fun h O=>?_;refine gH ?_;exact jx (v12.set v15 x23.ins.length) hm ⟨ha16,(O.sel [1,2,3] (by decide))⟩
      ·refine gX ?_;exact jx v12 hm ⟨ha16,(O.sel [1,2,3] (by decide))⟩
     ·clear hm;rintro v26 base h hm ⟨ha27,O⟩;refine gX ?_;refine ix 1 hm fun x31 hx31 hm=>?_;refine gH ?_;refine ldE (s:=1) (i:=0) O.i1 hx31 ?_;refine gX ?_;refine br hm (fun hm=>?_) fun hm=>?_
      ·refine gX ?_;refine fz ?_;refine gH ?_;refine O.apL (enc:=i64) (l:=v14) (new:=([v15]:(List Nat))) 1 (.tail _ (.tail _ (.head _))) ha27 hm fun a32 h ha33 O hm=>?_;refine gH ?_;exact jx ((v26,(v14++([v15]:(List Nat)))),a32) hm ⟨ha33,O⟩
      ·refine gX ?_;exact jx ((v26,v14),a13) hm ⟨ha27,O⟩
    ·clear hm;rintro⟨⟨v18,v20⟩,a19⟩ base h hm ⟨ha21,O⟩;refine gX ?_;refine aH hm fun hm=>?_;refine gH ?_;exact jx ((v18,v20,(v15+1)),a19) hm ⟨ha21,O⟩
   ·refine gX ?_;exact jx ((v12,v14),a13) hm ⟨ha16,O⟩
  ·clear hm;rintro⟨⟨v7,v9⟩,a8⟩ base h hm ⟨ha10,O⟩;refine gX ?_;refine ca (iM hm O.has) fun r34 hm=>?_;refine gH ?_
   apply Cs;conv=>whnf
   apply Cs;refine gH ?_
   apply Cs;conv=>whnf
   apply Cs;conv=>whnf
   refine jn hm 131 [1,5] (fun s=>s) (fun (v35,v36) h=>Own vars h0 [(sC g2 (flatC (v35.map i64)))] h) (fun (v35,v36)=>[(11,(i64 v36))]) (fun hm=>?_) ?_
   ·refine gX ?_;refine lw 131 [1,5,6,10] (σ:=((List Nat)×(List Nat)×(List Nat)×Nat)×Option Nat) (fun s=>s.1) (fun ((v38,v39,v41,v42),a40) h=>(a40=none->v41=[])/\Own vars h0 [(sC g2 (flatC (v38.map i64))),(sC g4 (flatC (v39.map i64))),(a40,.cells (flatC (v41.map i64)) false)] h) (fun ((v38,v39,v41,v42),a40)=>[(7,(ae 1 a40 (v41.map i64))),(11,(i64 v42))]) (((List.replicate p0.nodes.length (0:Nat)),v7,v9,0),a8) hm ⟨ha10,O⟩ ?_;clear hm;rintro⟨⟨v38,v39,v41,v42⟩,a40⟩ nx44 base h hm ⟨ha43,O⟩;refine gX ?_;refine br hm (fun hm=>?_) fun hm=>?_
    ·refine gX ?_;obtain⟨x45,hx45,hm⟩:=hm;have h9:=hm;obtain⟨g46,rfl⟩:=fP ha43 hx45;replace hm:=h9;refine bb (s:=1) (j:=v42) rfl rfl rfl rfl (by rw[List.length_map];exact ag hx45) ?_;refine gH ?_;refine ldE (s:=1) (i:=0) O.i2 hx45 ?_;refine gX ?_;refine aH hm fun hm=>?_;refine gX ?_;refine atF hm fun x47 hx47 hm=>?_;refine gX ?_;refine br hm (fun hm=>?_) fun hm=>?_
     ·refine gX ?_;exact jx ((v38,v39,v41,(v42+1)),(some g46)) hm ⟨cE,O⟩
     ·refine gX ?_;refine atF hm fun x48 hx48 hm=>?_;refine gX ?_;refine lw 131 [1,5,6,10,11,12,76,77] (σ:=((List Nat)×(List Nat)×(List Nat)×Nat)×Option Nat) (fun s=>s.1) (fun ((v49,v50,v52,v53),a51) h=>(a51=none->v52=[])/\Own vars h0 [(sC g2 (flatC (v49.map i64))),(sC g4 (flatC (v50.map i64))),(a51,.cells (flatC (v52.map i64)) false)] h) (fun ((v49,v50,v52,v53),a51)=>[(7,(ae 1 a51 (v52.map i64))),(78,(i64 v53))]) ((v38,v39,v41,0),(some g46)) hm ⟨cE,O⟩ ?_;clear hm;rintro⟨⟨v49,v50,v52,v53⟩,a51⟩ nx55 base h hm ⟨ha54,O⟩;refine gX ?_;refine br hm (fun hm=>?_) fun hm=>?_
      ·apply Cs;conv=>whnf
       refine jn (σ:=((List Nat)×(List Nat)×(List Nat))×Option Nat) hm 131 [1,5,6,10,11,12,76,77,78] (fun s=>s.1) (fun ((v56,v57,v59),a58) h=>(a58=none->v59=[])/\Own vars h0 [(sC g2 (flatC (v56.map i64))),(sC g4 (flatC (v57.map i64))),(a58,.cells (flatC (v59.map i64)) false)] h) (fun ((v56,v57,v59),a58)=>[(7,(ae 1 a58 (v59.map i64)))]) (fun hm=>?_) ?_
       ·refine gX ?_;refine atF hm fun x62 hx62 hm=>?_;refine gH ?_;refine O.new (ai (l:=[(i64 0),(i64 0)]) rfl rfl rfl) fun g63 h O=>?_;refine gH ?_;refine O.stC 2 (.head _) [(i64 x62.node),(i64 x62.pin)] fun h O=>?_;refine gX ?_;refine atF hm fun x65 hx65 hm=>?_;refine gH ?_;refine ca (jZ hm O.has) fun r66 hm=>?_;refine gX ?_;refine br hm (fun hm=>?_) fun hm=>?_
        ·refine gX ?_;exact jx ((v49,v50,v52),a51) hm ⟨ha54,(O.sel [1,2,3] (by decide))⟩
        ·refine gX ?_;refine ix 1 hm fun x67 hx67 hm=>?_;refine gH ?_;refine⟨_,bz rfl O.i1 rfl (fA (enc:=i64) (s:=1) (k:=0) (fun _=>rfl) hx67 rfl),?_⟩;refine gH ?_;refine ix 1 hm fun x68 hx68 hm=>?_;refine gH ?_;refine⟨_,bz rfl O.i1 rfl (fA (enc:=i64) (s:=1) (k:=0) (fun _=>rfl) hx68 rfl),?_⟩;refine gH ?_;refine aH hm fun hm=>?_;refine gH ?_;refine⟨_,Kj (a:=x67) (b:=(x68+1)) rfl rfl,?_⟩;refine gH ?_;refine ix 1 hm fun x69 hx69 hm=>?_;refine gH ?_;refine O.stE 1 (.tail _ (.head _)) hx69 (max x67 (x68+1)) fun h O=>?_;refine gH ?_;refine gX ?_;refine ix 1 hm fun x70 hx70 hm=>?_;refine gH ?_;refine ldE (s:=1) (i:=0) O.i2 hx70 ?_;refine gH ?_;refine nW hm fun hm=>?_;refine gH ?_;refine ix 1 hm fun x71 hx71 hm=>?_;refine gH ?_;refine O.stE 1 (.tail _ (.tail _ (.head _))) hx71 (x70-1) fun h O=>?_;refine gX ?_;refine ix 1 hm fun x72 hx72 hm=>?_;refine gH ?_;refine ldE (s:=1) (i:=0) O.i2 hx72 ?_;refine gX ?_;refine br hm (fun hm=>?_) fun hm=>?_
         ·refine gX ?_;refine fz ?_;refine gH ?_;refine O.apL (enc:=i64) (l:=v52) (new:=([x62.node]:(List Nat))) 1 (.tail _ (.tail _ (.tail _ (.head _)))) ha54 hm fun a73 h ha74 O hm=>?_;refine gH ?_;exact jx (((v49.set x62.node (max x67 (x68+1))),(v50.set x62.node (x70-1)),(v52++([x62.node]:(List Nat)))),a73) hm ⟨ha74,(O.sel [1,2,3] (by decide))⟩
         ·refine gX ?_;exact jx (((v49.set x62.node (max x67 (x68+1))),(v50.set x62.node (x70-1)),v52),a51) hm ⟨ha54,(O.sel [1,2,3] (by decide))⟩
       ·clear hm;rintro⟨⟨v56,v57,v59⟩,a58⟩ base h hm ⟨ha60,O⟩;refine gX ?_;refine aH hm fun hm=>?_;refine gH ?_;exact jx ((v56,v57,v59,(v53+1)),a58) hm ⟨ha60,O⟩
      ·refine gX ?_;exact jx ((v49,v50,v52,(v42+1)),a51) hm ⟨ha54,O⟩
    ·refine gX ?_;exact jx (v38,v42) hm (O.sel [0] (by decide))
   ·clear hm;rintro⟨v35,v36⟩ base h hm O;refine gX ?_;refine br hm (fun hm=>?_) fun hm=>?_
    ·refine gX ?_;exact⟨([],6),hm,O.ext,fun h2 F=>VLe.tup (LLe.cons (VLe.nil _ _) (LLe.cons (VLe.refl _ _) (LLe.nil _)))⟩
    ·refine gX ?_;obtain⟨hn75,hm⟩:=hm;exact⟨(v35,0),hm,O.ext,fun h2 F=>VLe.tup (LLe.cons (O.gA F (Nat.le_refl _) (.head _) (fun _=>rfl) hn75) (LLe.cons (VLe.refl _ _) (LLe.nil _)))⟩
def cw (p0:Circ) (K:Nat->Prop):Prop :=
 ck p0 (fun r1=>K r1.2)
theorem jl {p0:Circ}{K:Nat->Prop} (hm:cw p0 K) {h0:Heap} (hB:HasB vars h0):∃ r,K r/\CallD Tryz.prog NG 161 ⟨[ar p0]⟩ h0 (i64 r) h0:=by
 unfold cw at hm
 refine fw Tryz.func161 hB (enc:=i64) (fun r=>PureV.flat rfl) fun O=>?_;conv=>whnf
 refine gX ?_;refine fz ?_;refine gX ?_;refine ca (iL hm O.has) fun r1 hm=>?_;refine gX ?_;exact fe hm O
def gg (p0:Nat) (K:Bool->Prop):Prop :=
 K (neN p0 p0)
theorem mX {p0:Nat}{K:Bool->Prop} (hm:gg p0 K) {h0:Heap} (hB:HasB vars h0):∃ r,K r/\CallD Tryz.prog NG 165 ⟨[i64 p0]⟩ h0 (Value.bool r) h0:=by
 unfold gg at hm
 refine fw Tryz.func165 hB (enc:=Value.bool) (fun r=>PureV.flat rfl) fun O=>?_;conv=>whnf
 refine gX ?_;exact fe hm O
def eD (p0:Nat) (p1:Nat) (K:Int->Prop):Prop :=
 gg p0 (fun r1=>gg p1 (fun r2=>(r1=true->(r2=true->K (Int.ofNat 0))/\(r2=false->K (Int.negSucc 0)))/\(r1=false->(r2=true->K (Int.ofNat 1))/\(r2=false->((ltN p0 p1)=true->K (Int.negSucc 0))/\((ltN p0 p1)=false->((ltN p1 p0)=true->K (Int.ofNat 1))/\((ltN p1 p0)=false->K (Int.ofNat 0)))))))
theorem qM {p0:Nat}{p1:Nat}{K:Int->Prop} (hm:eD p0 p1 K) {h0:Heap} (hB:HasB vars h0):∃ r,K r/\CallD Tryz.prog NG 83 ⟨[i64 p0,i64 p1]⟩ h0 (z64 r) h0:=by
 unfold eD at hm
 refine fw Tryz.func83 hB (enc:=z64) (fun r=>PureV.flat rfl) fun O=>?_;conv=>whnf
 refine gX ?_;refine ca (mX hm O.has) fun r1 hm=>?_;refine gX ?_;refine ca (mX hm O.has) fun r2 hm=>?_;refine gX ?_;refine br hm (fun hm=>?_) fun hm=>?_
 ·refine gX ?_;refine br hm (fun hm=>?_) fun hm=>?_
  ·refine gX ?_;exact fe hm O
  ·refine gX ?_;exact fe hm O
 ·refine gX ?_;refine br hm (fun hm=>?_) fun hm=>?_
  ·refine gX ?_;exact fe hm O
  ·refine gX ?_;refine br hm (fun hm=>?_) fun hm=>?_
   ·refine gX ?_;exact fe hm O
   ·refine gX ?_;refine br hm (fun hm=>?_) fun hm=>?_
    ·refine gX ?_;exact fe hm O
    ·refine gX ?_;exact fe hm O
def fV (data:List Nat) (lev:List Nat) (nd:Nat) (a:Nat) (b:Nat) (K:(List Nat)->Prop):Prop :=
 a+1<2 ^ 63/\aF (S:=((List Nat)×Nat)) (fun (v1,v2) nx3=>((ltN v2 b)=true->an (α:=(List Nat)) (fun k5=>aF (S:=((List Nat)×Nat)) (fun (v6,v7) nx8=>an (α:=Bool) (fun k10=>((ltN a v7)=true->v7<nd/\∃ x11,v6[v7]?=some x11/\1<=v7/\v7<2 ^ 63/\(v7-1)<nd/\∃ x12,v6[(v7-1)]?=some x12/\∃ x13,lev[x11]?=some x13/\∃ x14,lev[x12]?=some x14/\eD x13 x14 (fun r15=>k10 (ltI r15 (Int.ofNat 0))))/\((ltN a v7)=false->k10 false)) (fun v9=>(v9=true->1<=v7/\v7<2 ^ 63/\1<=v7/\v7<2 ^ 63/\(v7-1)<nd/\∃ x16,v6[(v7-1)]?=some x16/\v7<nd/\∃ x17,v6[v7]?=some x17/\v7<nd/\∃ x18,v6[v7]?=some x18/\(v7-1)<nd/\∃ x19,(v6.set v7 x16)[(v7-1)]?=some x19/\1<=v7/\v7<2 ^ 63/\nx8 (((v6.set v7 x16).set (v7-1) x17),(v7-1)))/\(v9=false->k5 v6))) (v1,v2)) (fun v4=>v2+1<2 ^ 63/\nx3 (v4,(v2+1))))/\((ltN v2 b)=false->K v1)) (data,(a+1))
theorem oz {data:List Nat}{lev:List Nat}{nd:Nat}{a:Nat}{b:Nat}{gd:Nat}{gl:Nat}{L:List Slot}{K:(List Nat)->Prop} (hm:fV data lev nd a b K) {h0 h:Heap}  (O:Own vars h0 (((some gd),.cells (flatC (data.map i64)) false)::((some gl),.cells [((ah 1 i64) lev)] false)::L) h):∃ v h',CallD Tryz.prog NG 214 ⟨[(.slice (some ⟨gd,0,none⟩) nd nd),(i64 a),(i64 b),(.func (.func 82) ⟨[]⟩ ⟨[(.pointer (some ⟨gl,0,none⟩))]⟩)]⟩ h v h'/\∃ (w0:(List Nat)),K w0/\v=.tuple ⟨[]⟩/\Own vars h0 (((some gd),.cells (flatC (w0.map i64)) false)::((some gl),.cells [((ah 1 i64) lev)] false)::L) h'/\True:=by
 unfold fV at hm
 refine fg Tryz.func214 (Q:=fun v h'=>∃ (w0:(List Nat)),K w0/\v=.tuple ⟨[]⟩/\Own vars h0 (((some gd),.cells (flatC (w0.map i64)) false)::((some gl),.cells [((ah 1 i64) lev)] false)::L) h'/\True) ?_;conv=>whnf
 refine gX ?_;refine aH hm fun hm=>?_;refine gX ?_;refine lw 53 [0,1,2,3] (σ:=((List Nat)×Nat)) (fun s=>s) (fun (v1,v2) h=>Own vars h0 (((some gd),.cells (flatC (v1.map i64)) false)::((some gl),.cells [((ah 1 i64) lev)] false)::L) h) (fun (v1,v2)=>[(8,(i64 v2))]) (data,(a+1)) hm O ?_;clear hm;rintro⟨v1,v2⟩ nx3 base h hm O;refine gX ?_;refine br hm (fun hm=>?_) fun hm=>?_
 ·apply Cs;conv=>whnf
  refine jn hm 53 [0,1,2,3,8] (fun s=>s) (fun v4 h=>Own vars h0 (((some gd),.cells (flatC (v4.map i64)) false)::((some gl),.cells [((ah 1 i64) lev)] false)::L) h) (fun v4=>[]) (fun hm=>?_) ?_
  ·refine gX ?_;refine lw 53 [0,1,2,3,8] (σ:=((List Nat)×Nat)) (fun s=>s) (fun (v6,v7) h=>Own vars h0 (((some gd),.cells (flatC (v6.map i64)) false)::((some gl),.cells [((ah 1 i64) lev)] false)::L) h) (fun (v6,v7)=>[(9,(i64 v7))]) (v1,v2) hm O ?_;clear hm;rintro⟨v6,v7⟩ nx8 base h hm O
   conv=>whnf
   apply Cs;conv=>whnf
   refine jn hm 53 [0,1,2,3,8,9] (fun s=>s) (fun v9 h=>Own vars h0 (((some gd),.cells (flatC (v6.map i64)) false)::((some gl),.cells [((ah 1 i64) lev)] false)::L) h) (fun v9=>[(34,(.bool v9))]) (fun hm=>?_) ?_
   ·refine gX ?_;refine br hm (fun hm=>?_) fun hm=>?_
    ·refine gX ?_;refine ix 1 hm fun x11 hx11 hm=>?_;refine gH ?_;refine⟨_,bz rfl O.i0 rfl (fA (enc:=i64) (s:=1) (k:=0) (fun _=>rfl) hx11 rfl),?_⟩;refine gH ?_;refine nW hm fun hm=>?_;refine gH ?_;refine ix 1 hm fun x12 hx12 hm=>?_;refine gH ?_;refine⟨_,bz rfl O.i0 rfl (fA (enc:=i64) (s:=1) (k:=0) (fun _=>rfl) hx12 rfl),?_⟩;refine gH ?_;refine fg Tryz.func82 ?_;refine gX ?_
     first|refine⟨.inr (.inr (bz rfl O.i1 rfl rfl)),?_⟩|refine⟨.inr (.inl (by kernel_rfl)),?_⟩
     refine gX ?_;refine atF hm fun x13 hx13 hm=>?_;refine gH ?_
     first|refine⟨.inr (.inr (bz rfl O.i1 rfl rfl)),?_⟩|refine⟨.inr (.inl (by kernel_rfl)),?_⟩
     refine gX ?_;refine atF hm fun x14 hx14 hm=>?_;refine gH ?_;refine ca (qM hm O.has) fun r15 hm=>?_;refine gH ?_;refine⟨.inl (Ext.refl _),?_⟩;refine gH ?_;refine gX ?_;refine⟨.inl (Ext.refl _),?_⟩;refine gH ?_;exact jx (ltI r15 (Int.ofNat 0)) hm O
    ·refine gX ?_;exact jx false hm O
   ·clear hm;rintro v9 base h hm O;refine gX ?_;refine br hm (fun hm=>?_) fun hm=>?_
    ·refine gX ?_;refine nW hm fun hm=>?_;refine gH ?_;refine nW hm fun hm=>?_;refine gH ?_;refine ix 1 hm fun x16 hx16 hm=>?_;refine gH ?_;refine⟨_,bz rfl O.i0 rfl (fA (enc:=i64) (s:=1) (k:=0) (fun _=>rfl) hx16 rfl),?_⟩;refine gH ?_;refine ix 1 hm fun x17 hx17 hm=>?_;refine gH ?_;refine⟨_,bz rfl O.i0 rfl (fA (enc:=i64) (s:=1) (k:=0) (fun _=>rfl) hx17 rfl),?_⟩;refine gH ?_;refine ix 1 hm fun x18 hx18 hm=>?_;refine gH ?_;refine O.stE 1 (.head _) hx18 x16 fun h O=>?_;refine gH ?_;refine ix 1 hm fun x19 hx19 hm=>?_;refine gH ?_;refine O.stE 1 (.head _) hx19 x17 fun h O=>?_;refine gH ?_;refine gX ?_;refine nW hm fun hm=>?_;refine gH ?_;exact jx (((v6.set v7 x16).set (v7-1) x17),(v7-1)) hm O
    ·refine gX ?_;exact jx v6 hm O
  ·clear hm;rintro v4 base h hm O;refine gX ?_;refine aH hm fun hm=>?_;refine gH ?_;exact jx (v4,(v2+1)) hm O
 ·refine gX ?_;exact⟨v1,hm,rfl,O,trivial⟩
def ez (data:List Nat) (lev:List Nat) (nd:Nat) (n:Nat) (K:(List Nat)->Prop):Prop :=
 an (α:=((List Nat)×Nat)) (fun k3=>aF (S:=((List Nat)×Nat×Nat)) (fun (v4,v5,v6) nx7=>((!ltN n v6)=true->fV v4 lev nd v5 v6 (fun x8=>v6+20<2 ^ 63/\nx7 (x8,v6,(v6+20))))/\((!ltN n v6)=false->k3 (v4,v5))) (data,0,20)) (fun (v1,v2)=>fV v1 lev nd v2 n (fun x9=>aF (S:=Nat) (fun v10 nx11=>((ltN v10 n)=true->2*v10<2 ^ 63/\an (α:=Unit) (fun k12=>aF (S:=Unit) (fun _ _nx13=>((!ltN n (2*v10))=true->0+v10<2 ^ 63/\False)/\((!ltN n (2*v10))=false->k12 ())) ()) (fun _=>an (α:=Unit) (fun k14=>0+v10<2 ^ 63/\((ltN (0+v10) n)=true->False)/\((ltN (0+v10) n)=false->k14 ())) (fun _=>v10*2<2 ^ 63/\nx11 (v10*2))))/\((ltN v10 n)=false->K x9)) 20))
theorem rq {data:List Nat}{lev:List Nat}{nd:Nat}{n:Nat}{gd:Nat}{gl:Nat}{L:List Slot}{K:(List Nat)->Prop} (hm:ez data lev nd n K) {h0 h:Heap}  (O:Own vars h0 (((some gd),.cells (flatC (data.map i64)) false)::((some gl),.cells [((ah 1 i64) lev)] false)::L) h):∃ v h',CallD Tryz.prog NG 164 ⟨[(.slice (some ⟨gd,0,none⟩) nd nd),(i64 n),(.func (.func 82) ⟨[]⟩ ⟨[(.pointer (some ⟨gl,0,none⟩))]⟩)]⟩ h v h'/\∃ (w0:(List Nat)),K w0/\v=.tuple ⟨[]⟩/\Own vars h0 (((some gd),.cells (flatC (w0.map i64)) false)::((some gl),.cells [((ah 1 i64) lev)] false)::L) h'/\True:=by
 unfold ez at hm
 refine fg Tryz.func164 (Q:=fun v h'=>∃ (w0:(List Nat)),K w0/\v=.tuple ⟨[]⟩/\Own vars h0 (((some gd),.cells (flatC (w0.map i64)) false)::((some gl),.cells [((ah 1 i64) lev)] false)::L) h'/\True) ?_;conv=>whnf
 apply Cs;conv=>whnf
 apply Cs;refine gH ?_
 apply Cs;conv=>whnf
 apply Cs;refine gH ?_;refine jn hm 63 [0,1,2,6] (fun s=>s) (fun (v1,v2) h=>Own vars h0 (((some gd),.cells (flatC (v1.map i64)) false)::((some gl),.cells [((ah 1 i64) lev)] false)::L) h) (fun (v1,v2)=>[(7,(i64 v2))]) (fun hm=>?_) ?_
 ·refine gX ?_;refine lw 63 [0,1,2,6] (σ:=((List Nat)×Nat×Nat)) (fun s=>s) (fun (v4,v5,v6) h=>Own vars h0 (((some gd),.cells (flatC (v4.map i64)) false)::((some gl),.cells [((ah 1 i64) lev)] false)::L) h) (fun (v4,v5,v6)=>[(7,(i64 v5)),(8,(i64 v6))]) (data,0,20) hm O ?_;clear hm;rintro⟨v4,v5,v6⟩ nx7 base h hm O;refine gX ?_;refine br hm (fun hm=>?_) fun hm=>?_
  ·refine gX ?_;obtain⟨_,h,hcall,x8,hm,rfl,O,_⟩:=oz hm  O;refine⟨_,_,hcall,?_⟩;refine gX ?_;refine aH hm fun hm=>?_;refine gH ?_;exact jx (x8,v6,(v6+20)) hm O
  ·refine gX ?_;exact jx (v4,v5) hm O
 ·clear hm;rintro⟨v1,v2⟩ base h hm O;refine gX ?_;obtain⟨_,h,hcall,x9,hm,rfl,O,_⟩:=oz hm  O;refine⟨_,_,hcall,?_⟩;refine gX ?_;refine lw 63 [0,1,2] (σ:=Nat) (fun s=>s) (fun v10 h=>Own vars h0 (((some gd),.cells (flatC (x9.map i64)) false)::((some gl),.cells [((ah 1 i64) lev)] false)::L) h) (fun v10=>[(6,(i64 v10))]) 20 hm O ?_;clear hm;rintro v10 nx11 base h hm O;refine gX ?_;refine br hm (fun hm=>?_) fun hm=>?_
  ·refine gX ?_;refine E4 hm fun hm=>?_;refine gH ?_;refine jn hm 63 [0,1,2,6] (fun s=>s) (fun _ h=>Own vars h0 (((some gd),.cells (flatC (x9.map i64)) false)::((some gl),.cells [((ah 1 i64) lev)] false)::L) h) (fun _=>[(7,(i64 0))]) (fun hm=>?_) ?_
   ·refine gX ?_;refine lw 63 [0,1,2,6] (σ:=Unit) (fun s=>s) (fun _ h=>Own vars h0 (((some gd),.cells (flatC (x9.map i64)) false)::((some gl),.cells [((ah 1 i64) lev)] false)::L) h) (fun _=>[(7,(i64 0)),(8,(i64 (2*v10)))]) () hm O ?_;clear hm;rintro _ nx13 base h hm O;refine gX ?_;refine br hm (fun hm=>?_) fun hm=>?_
    ·refine gX ?_;refine aH hm fun hm=>?_;refine gH ?_;exact False.elim hm
    ·refine gX ?_;exact jx () hm O
   ·clear hm;rintro _ base h hm O
    conv=>whnf
    refine jn hm 63 [0,1,2,6] (fun s=>s) (fun _ h=>Own vars h0 (((some gd),.cells (flatC (x9.map i64)) false)::((some gl),.cells [((ah 1 i64) lev)] false)::L) h) (fun _=>[]) (fun hm=>?_) ?_
    ·refine gX ?_;refine aH hm fun hm=>?_;refine gX ?_;refine br hm (fun hm=>?_) fun hm=>?_
     ·refine gX ?_;exact False.elim hm
     ·refine gX ?_;exact jx () hm O
    ·clear hm;rintro _ base h hm O;refine gX ?_;refine E4 hm fun hm=>?_;refine gH ?_;exact jx (v10*2) hm O
  ·refine gX ?_;exact⟨x9,hm,rfl,O,trivial⟩
def ko (data:List Nat) (lev:List Nat) (nd:Nat) (K:(List Nat)->Prop):Prop :=
 ez data lev nd nd (fun x1=>K x1)
theorem vH {data:List Nat}{lev:List Nat}{nd:Nat}{gd:Nat}{gl:Nat}{L:List Slot}{K:(List Nat)->Prop} (hm:ko data lev nd K) {h0 h:Heap}  (O:Own vars h0 (((some gd),.cells (flatC (data.map i64)) false)::((some gl),.cells [((ah 1 i64) lev)] false)::L) h):∃ v h',CallD Tryz.prog NG 81 ⟨[(.slice (some ⟨gd,0,none⟩) nd nd),(.func (.func 82) ⟨[]⟩ ⟨[(.pointer (some ⟨gl,0,none⟩))]⟩)]⟩ h v h'/\∃ (w0:(List Nat)),K w0/\v=.tuple ⟨[]⟩/\Own vars h0 (((some gd),.cells (flatC (w0.map i64)) false)::((some gl),.cells [((ah 1 i64) lev)] false)::L) h'/\True:=by
 unfold ko at hm
 refine fg Tryz.func81 (Q:=fun v h'=>∃ (w0:(List Nat)),K w0/\v=.tuple ⟨[]⟩/\Own vars h0 (((some gd),.cells (flatC (w0.map i64)) false)::((some gl),.cells [((ah 1 i64) lev)] false)::L) h'/\True) ?_;conv=>whnf
 refine gX ?_;obtain⟨_,h,hcall,x1,hm,rfl,O,_⟩:=rq hm  O;refine⟨_,_,hcall,?_⟩;refine gH ?_;exact⟨x1,hm,rfl,O,trivial⟩
def dc (p0:Circ) (K:((List Nat)×Nat)->Prop):Prop :=
 ck p0 (fun r1=>((neN r1.2 0)=true->K ([],r1.2))/\((neN r1.2 0)=false->8*p0.nodes.length<=2 ^ 48/\p0.nodes.length<2 ^ 63/\an (α:=(List Nat)) (fun k7=>aF (S:=((List Nat)×Nat)) (fun (v8,v9) nx10=>((ltN v9 p0.nodes.length)=true->v9<p0.nodes.length/\∃ x11,v8[v9]?=some x11/\v9+1<2 ^ 63/\nx10 ((v8.set v9 v9),(v9+1)))/\((ltN v9 p0.nodes.length)=false->k7 v8)) ((List.replicate p0.nodes.length (0:Nat)),0)) (fun v6=>ko v6 r1.1 p0.nodes.length (fun x12=>p0.nodes.length=x12.length/\K (x12,0)))))
theorem og {p0:Circ}{K:((List Nat)×Nat)->Prop} (hm:dc p0 K) {h0:Heap} (hB:HasB vars h0):∃ r,K r/\CallD Tryz.prog NG 28 ⟨[ar p0]⟩ h0 ((fun (r:((List Nat)×Nat))=>Value.tuple ⟨[(ah 1 i64) (r.1),i64 (r.2)]⟩) r) h0:=by
 unfold dc at hm
 refine fw Tryz.func28 hB (enc:=(fun (r:((List Nat)×Nat))=>Value.tuple ⟨[(ah 1 i64) (r.1),i64 (r.2)]⟩)) (fun r=>PureV.tup (AllPure.cons (cF (fun _=>AllPure.cons (PureV.flat rfl) AllPure.nil)) (AllPure.cons (PureV.flat rfl) (AllPure.nil)))) fun O=>?_;conv=>whnf
 refine gX ?_;refine fz ?_;refine gX ?_;refine ca (iL hm O.has) fun r1 hm=>?_;refine gH ?_;refine O.new (ai (l:=[nS]) rfl rfl rfl) fun g2 h O=>?_;refine gH ?_;refine O.stC 1 (.head _) [((ah 1 i64) r1.1)] fun h O=>?_;refine gX ?_;refine br hm (fun hm=>?_) fun hm=>?_
 ·refine gX ?_;exact⟨([],r1.2),hm,O.ext,fun h2 F=>VLe.tup (LLe.cons (VLe.nil _ _) (LLe.cons (VLe.refl _ _) (LLe.nil _)))⟩
 ·refine gX ?_;refine O.mkL (enc:=i64) 8 1 0 hm fun g4 h O hm=>?_;refine gH ?_;refine jn hm 34 [4,6] (fun s=>s) (fun v6 h=>Own vars h0 [(sC g2 [((ah 1 i64) r1.1)]),(sC g4 (flatC (v6.map i64)))] h) (fun v6=>[]) (fun hm=>?_) ?_
  ·refine gX ?_;refine lw 34 [4,6,21] (σ:=((List Nat)×Nat)) (fun s=>s) (fun (v8,v9) h=>Own vars h0 [(sC g2 [((ah 1 i64) r1.1)]),(sC g4 (flatC (v8.map i64)))] h) (fun (v8,v9)=>[(22,(i64 v9))]) ((List.replicate p0.nodes.length (0:Nat)),0) hm (O.sel [1,0] (by decide)) ?_;clear hm;rintro⟨v8,v9⟩ nx10 base h hm O;refine gX ?_;refine br hm (fun hm=>?_) fun hm=>?_
   ·refine gX ?_;refine ix 1 hm fun x11 hx11 hm=>?_;refine gH ?_;refine O.stE 1 (.tail _ (.head _)) hx11 v9 fun h O=>?_;refine gX ?_;refine aH hm fun hm=>?_;refine gH ?_;exact jx ((v8.set v9 v9),(v9+1)) hm O
   ·refine gX ?_;exact jx v8 hm O
  ·clear hm;rintro v6 base h hm O;refine gX ?_;obtain⟨_,h,hcall,x12,hm,rfl,O,_⟩:=vH hm  (O.sel [1,0] (by decide));refine⟨_,_,hcall,?_⟩;refine gX ?_;obtain⟨hn13,hm⟩:=hm;exact⟨(x12,0),hm,O.ext,fun h2 F=>VLe.tup (LLe.cons (O.gA F (Nat.le_refl _) (.head _) (fun _=>rfl) hn13) (LLe.cons (VLe.refl _ _) (LLe.nil _)))⟩
set_option maxHeartbeats 8000000
def iO (p0:CData) (K:Circ->Prop):Prop :=
 an (α:=(List Node)) (fun k12=>aF (S:=((List Node)×Nat)) (fun (v14,v15) nx17=>0<4/\(p0.inp%4)<256/\((!ltN (p0.inp%4) v15)=true->(v14.length+([(⟨0,([]:(List Nat)),0,0⟩:Node)]:(List Node)).length)*48<=2 ^ 47/\v15+1<2 ^ 63/\nx17 ((v14++([(⟨0,([]:(List Nat)),0,0⟩:Node)]:(List Node))),(v15+1)))/\((!ltN (p0.inp%4) v15)=false->k12 v14)) (([]:List Node),0)) (fun v10=>0<3/\(p0.dffs%3)<256/\an (α:=(List Node)) (fun k23=>aF (S:=((List Node)×Nat)) (fun (v25,v26) nx28=>((ltN v26 (p0.dffs%3))=true->(v25.length+([(⟨14,([0]:(List Nat)),0,0⟩:Node)]:(List Node)).length)*48<=2 ^ 47/\v26+1<2 ^ 63/\nx28 ((v25++([(⟨14,([0]:(List Nat)),0,0⟩:Node)]:(List Node))),(v26+1)))/\((ltN v26 (p0.dffs%3))=false->k23 v25)) (v10,0)) (fun v21=>an (α:=(List Node)) (fun k34=>(p0.mem=true->(v21.length+([(⟨15,([]:(List Nat)),0,0⟩:Node),(⟨15,([]:(List Nat)),0,1⟩:Node)]:(List Node)).length)*48<=2 ^ 47/\k34 (v21++([(⟨15,([]:(List Nat)),0,0⟩:Node),(⟨15,([]:(List Nat)),0,1⟩:Node)]:(List Node))))/\(p0.mem=false->k34 v21)) (fun v32=>an (α:=(List Node)) (fun k40=>aF (S:=((List Node)×Nat)) (fun (v42,v43) nx45=>an (α:=Bool) (fun k48=>((ltN v43 p0.gates.length)=true->k48 (ltN v43 8))/\((ltN v43 p0.gates.length)=false->k48 false)) (fun v46=>(v46=true->∃ x49,p0.gates[v43]?=some x49/\GOk x49/\0<v42.length/\v42.length<=1000/\(v42.length+([(jq p0.bus x49 (v42.map Node.kind))]:(List Node)).length)*48<=2 ^ 47/\v43+1<2 ^ 63/\nx45 ((v42++([(jq p0.bus x49 (v42.map Node.kind))]:(List Node))),(v43+1)))/\(v46=false->k40 v42))) (v32,0)) (fun v38=>an (α:=(List Node)) (fun k58=>aF (S:=((List Node)×Nat)) (fun (v60,v61) nx63=>((ltN v61 (p0.dffs%3))=true->v10.length+v61<2 ^ 63/\v61<2/\(v61=0->p0.data0<256/\0<v38.length/\∃ x66,v60[(v10.length+v61)]?=some x66/\v61+1<2 ^ 63/\nx63 ((v60.set (v10.length+v61) { x66 with ins:=([(p0.data0%v38.length)]:(List Nat)) }),(v61+1)))/\(v61=1->p0.data1<256/\0<v38.length/\∃ x70,v60[(v10.length+v61)]?=some x70/\v61+1<2 ^ 63/\nx63 ((v60.set (v10.length+v61) { x70 with ins:=([(p0.data1%v38.length)]:(List Nat)) }),(v61+1))))/\((ltN v61 (p0.dffs%3))=false->k58 v60)) (v38,0)) (fun v56=>(p0.mem=true->p0.port0<256/\0<v38.length/\p0.port1<256/\0<v38.length/\p0.port2<256/\0<v38.length/\p0.port3<256/\0<v38.length/\an (α:=(List ByteArray)) (fun k82=>aF (S:=((List ByteArray)×Nat)) (fun (v84,v85) nx88=>((ltN v85 v38.length)=true->iD v85 (fun r89=>(v84.length+([r89]:(List ByteArray)).length)*16<=2 ^ 47/\v85+1<2 ^ 63/\nx88 ((v84++([r89]:(List ByteArray))),(v85+1))))/\((ltN v85 v38.length)=false->k82 v84)) (([]:List ByteArray),0)) (fun v79=>an (α:=(List Nat)) (fun k99=>aF (S:=((List Nat)×Nat)) (fun (v101,v102) nx106=>an (α:=Bool) (fun k111=>((ltN v102 p0.outs.length)=true->k111 (ltN v102 3))/\((ltN v102 p0.outs.length)=false->k111 false)) (fun v107=>(v107=true->∃ x112,p0.outs[v102]?=some x112/\x112<256/\0<v38.length/\(v101.length+([(x112%v38.length)]:(List Nat)).length)*8<=2 ^ 47/\v102+1<2 ^ 63/\nx106 ((v101++([(x112%v38.length)]:(List Nat))),(v102+1)))/\(v107=false->k99 v101))) (([]:List Nat),0)) (fun v95=>1<=v38.length/\v38.length<2 ^ 63/\(v95.length+([(v38.length-1)]:(List Nat)).length)*8<=2 ^ 47/\1=([(p0.port0%v38.length)]:(List Nat)).length/\2=([(p0.port1%v38.length),(p0.port2%v38.length)]:(List Nat)).length/\1=([(p0.port0%v38.length)]:(List Nat)).length/\2=([(p0.port1%v38.length),(p0.port2%v38.length)]:(List Nat)).length/\K (⟨v56,v79,[(⟨([(p0.port0%v38.length)]:(List Nat)),([(p0.port1%v38.length),(p0.port2%v38.length)]:(List Nat)),(p0.port3%v38.length)⟩:Memo)],(v95++([(v38.length-1)]:(List Nat)))⟩:Circ))))/\(p0.mem=false->an (α:=(List ByteArray)) (fun k127=>aF (S:=((List ByteArray)×Nat)) (fun (v129,v130) nx133=>((ltN v130 v38.length)=true->iD v130 (fun r134=>(v129.length+([r134]:(List ByteArray)).length)*16<=2 ^ 47/\v130+1<2 ^ 63/\nx133 ((v129++([r134]:(List ByteArray))),(v130+1))))/\((ltN v130 v38.length)=false->k127 v129)) (([]:List ByteArray),0)) (fun v124=>an (α:=(List Nat)) (fun k144=>aF (S:=((List Nat)×Nat)) (fun (v146,v147) nx151=>an (α:=Bool) (fun k156=>((ltN v147 p0.outs.length)=true->k156 (ltN v147 3))/\((ltN v147 p0.outs.length)=false->k156 false)) (fun v152=>(v152=true->∃ x157,p0.outs[v147]?=some x157/\x157<256/\0<v38.length/\(v146.length+([(x157%v38.length)]:(List Nat)).length)*8<=2 ^ 47/\v147+1<2 ^ 63/\nx151 ((v146++([(x157%v38.length)]:(List Nat))),(v147+1)))/\(v152=false->k144 v146))) (([]:List Nat),0)) (fun v140=>1<=v38.length/\v38.length<2 ^ 63/\(v140.length+([(v38.length-1)]:(List Nat)).length)*8<=2 ^ 47/\K (⟨v56,v124,([]:List Memo),(v140++([(v38.length-1)]:(List Nat)))⟩:Circ)))))))))
theorem vD {p0:CData}{K:Circ->Prop} (hm:iO p0 K) {h0:Heap} (hB:HasB vars h0):∃ r,K r/\CallD Tryz.prog NG 71 ⟨[bO p0]⟩ h0 (ar r) h0:=by
 unfold iO at hm
 refine fw Tryz.func71 hB (enc:=ar) (fun r=>nF _) fun O=>?_;conv=>whnf
 refine gX ?_;refine fz ?_;refine gH ?_;refine O.new (ai (l:=[nS,nS,nS,nS]) rfl rfl rfl) fun g1 h O=>?_;refine gH ?_;refine gX ?_;have O:=O.bC (.cells (flatC ((([]:List Node)).map aj)) false);have O:=O.bC (.cells (flatC ((([]:List ByteArray)).map Value.string)) false);have O:=O.bC (.cells (flatC ((([]:List Memo)).map aD)) false);have O:=O.bC (.cells (flatC ((([]:List Nat)).map i64)) false);refine O.new (ai (l:=[nS,nS,nS,nS]) rfl rfl rfl) fun g3 h O=>?_;refine gH ?_;refine jn (σ:=(List Node)×Option Nat) hm 178 [1,2,3] (fun s=>s.1) (fun (v10,a9) h=>(a9=none->v10=[])/\Own vars h0 [(sC g1 [nS,nS,nS,nS]),(sC g3 [(ae 4 a9 (v10.map aj)),(ae 1 none (([]:List ByteArray).map Value.string)),(ae 3 none (([]:List Memo).map aD)),(ae 1 none (([]:List Nat).map i64))]),(a9,.cells (flatC (v10.map aj)) false),(none,.cells (flatC (([]:List ByteArray).map Value.string)) false),(none,.cells (flatC (([]:List Memo).map aD)) false),(none,.cells (flatC (([]:List Nat).map i64)) false)] h) (fun (v10,a9)=>[]) (fun hm=>?_) ?_
 ·refine gX ?_;refine lw 178 [1,2,3] (σ:=((List Node)×Nat)×Option Nat) (fun s=>s.1) (fun ((v14,v15),a13) h=>(a13=none->v14=[])/\Own vars h0 [(sC g1 [nS,nS,nS,nS]),(sC g3 [(ae 4 a13 (v14.map aj)),(ae 1 none (([]:List ByteArray).map Value.string)),(ae 3 none (([]:List Memo).map aD)),(ae 1 none (([]:List Nat).map i64))]),(a13,.cells (flatC (v14.map aj)) false),(none,.cells (flatC (([]:List ByteArray).map Value.string)) false),(none,.cells (flatC (([]:List Memo).map aD)) false),(none,.cells (flatC (([]:List Nat).map i64)) false)] h) (fun ((v14,v15),a13)=>[(4,(i64 v15))]) ((([]:List Node),0),none) hm ⟨(fun _=>rfl),(O.sel [5,0,4,3,2,1] (by decide))⟩ ?_;clear hm;rintro⟨⟨v14,v15⟩,a13⟩ nx17 base h hm ⟨ha16,O⟩;refine gX ?_;refine ri hm fun hm=>?_;refine gH ?_;refine aCv hm wI8 fun hm=>?_;refine gX ?_;refine br hm (fun hm=>?_) fun hm=>?_
  ·refine gX ?_;refine NewG.frzW rfl (VLe.els (s:=4) (es':=([(⟨0,([]:(List Nat)),0,0⟩:Node)]).map aj) rfl (aZ (enc:=aj) (s:=4) (fun _=>rfl) _) (LLe.cons (VLe.refl _ _) (LLe.cons (VLe.nil _ _) (LLe.cons (VLe.refl _ _) (LLe.cons (VLe.refl _ _) (LLe.nil _)))))) ?_;refine gH ?_;refine O.apL (enc:=aj) (l:=v14) (new:=([(⟨0,([]:(List Nat)),0,0⟩:Node)]:(List Node))) 4 (.tail _ (.tail _ (.head _))) ha16 hm fun a18 h ha19 O hm=>?_;refine gH ?_;refine O.stC 1 (.tail _ (.head _)) [(ae 4 a18 ((v14++([(⟨0,([]:(List Nat)),0,0⟩:Node)]:(List Node))).map aj)),(ae 1 none (([]:List ByteArray).map Value.string)),(ae 3 none (([]:List Memo).map aD)),(ae 1 none (([]:List Nat).map i64))] fun h O=>?_;refine gX ?_;refine aH hm fun hm=>?_;refine gH ?_;exact jx (((v14++([(⟨0,([]:(List Nat)),0,0⟩:Node)]:(List Node))),(v15+1)),a18) hm ⟨ha19,O⟩
  ·refine gX ?_;exact jx (v14,a13) hm ⟨ha16,O⟩
 ·clear hm;rintro⟨v10,a9⟩ base h hm ⟨ha11,O⟩;refine gX ?_;refine ri hm fun hm=>?_;refine gH ?_;refine aCv hm wI8 fun hm=>?_;refine gH ?_;refine jn (σ:=(List Node)×Option Nat) hm 178 [1,2,3,5,6] (fun s=>s.1) (fun (v21,a20) h=>(a20=none->v21=[])/\Own vars h0 [(sC g1 [nS,nS,nS,nS]),(sC g3 [(ae 4 a20 (v21.map aj)),(ae 1 none (([]:List ByteArray).map Value.string)),(ae 3 none (([]:List Memo).map aD)),(ae 1 none (([]:List Nat).map i64))]),(a20,.cells (flatC (v21.map aj)) false),(none,.cells (flatC (([]:List ByteArray).map Value.string)) false),(none,.cells (flatC (([]:List Memo).map aD)) false),(none,.cells (flatC (([]:List Nat).map i64)) false)] h) (fun (v21,a20)=>[]) (fun hm=>?_) ?_
  ·refine gX ?_;refine lw 178 [1,2,3,5,6] (σ:=((List Node)×Nat)×Option Nat) (fun s=>s.1) (fun ((v25,v26),a24) h=>(a24=none->v25=[])/\Own vars h0 [(sC g1 [nS,nS,nS,nS]),(sC g3 [(ae 4 a24 (v25.map aj)),(ae 1 none (([]:List ByteArray).map Value.string)),(ae 3 none (([]:List Memo).map aD)),(ae 1 none (([]:List Nat).map i64))]),(a24,.cells (flatC (v25.map aj)) false),(none,.cells (flatC (([]:List ByteArray).map Value.string)) false),(none,.cells (flatC (([]:List Memo).map aD)) false),(none,.cells (flatC (([]:List Nat).map i64)) false)] h) (fun ((v25,v26),a24)=>[(7,(i64 v26))]) ((v10,0),a9) hm ⟨ha11,O⟩ ?_;clear hm;rintro⟨⟨v25,v26⟩,a24⟩ nx28 base h hm ⟨ha27,O⟩;refine gX ?_;refine br hm (fun hm=>?_) fun hm=>?_
   ·refine gX ?_;refine fz ?_;refine gH ?_;refine fz ?_;refine gH ?_;refine O.apL (enc:=aj) (l:=v25) (new:=([(⟨14,([0]:(List Nat)),0,0⟩:Node)]:(List Node))) 4 (.tail _ (.tail _ (.head _))) ha27 hm fun a29 h ha30 O hm=>?_;refine gH ?_;refine O.stC 1 (.tail _ (.head _)) [(ae 4 a29 ((v25++([(⟨14,([0]:(List Nat)),0,0⟩:Node)]:(List Node))).map aj)),(ae 1 none (([]:List ByteArray).map Value.string)),(ae 3 none (([]:List Memo).map aD)),(ae 1 none (([]:List Nat).map i64))] fun h O=>?_;refine gX ?_;refine aH hm fun hm=>?_;refine gH ?_;exact jx (((v25++([(⟨14,([0]:(List Nat)),0,0⟩:Node)]:(List Node))),(v26+1)),a29) hm ⟨ha30,O⟩
   ·refine gX ?_;exact jx (v25,a24) hm ⟨ha27,O⟩
  ·clear hm;rintro⟨v21,a20⟩ base h hm ⟨ha22,O⟩
   conv=>whnf
   refine jn (σ:=(List Node)×Option Nat) hm 178 [1,2,3,5,6] (fun s=>s.1) (fun (v32,a31) h=>(a31=none->v32=[])/\Own vars h0 [(sC g1 [nS,nS,nS,nS]),(sC g3 [(ae 4 a31 (v32.map aj)),(ae 1 none (([]:List ByteArray).map Value.string)),(ae 3 none (([]:List Memo).map aD)),(ae 1 none (([]:List Nat).map i64))]),(a31,.cells (flatC (v32.map aj)) false),(none,.cells (flatC (([]:List ByteArray).map Value.string)) false),(none,.cells (flatC (([]:List Memo).map aD)) false),(none,.cells (flatC (([]:List Nat).map i64)) false)] h) (fun (v32,a31)=>[]) (fun hm=>?_) ?_
   ·refine gX ?_;refine br hm (fun hm=>?_) fun hm=>?_
    ·refine gX ?_;refine NewG.frzW rfl (VLe.els (s:=4) (es':=([(⟨15,([]:(List Nat)),0,0⟩:Node),(⟨15,([]:(List Nat)),0,1⟩:Node)]).map aj) rfl (aZ (enc:=aj) (s:=4) (fun _=>rfl) _) (LLe.cons (VLe.refl _ _) (LLe.cons (VLe.nil _ _) (LLe.cons (VLe.refl _ _) (LLe.cons (VLe.refl _ _) (LLe.cons (VLe.refl _ _) (LLe.cons (VLe.nil _ _) (LLe.cons (VLe.refl _ _) (LLe.cons (VLe.refl _ _) (LLe.nil _)))))))))) ?_;refine gH ?_;refine O.apL (enc:=aj) (l:=v21) (new:=([(⟨15,([]:(List Nat)),0,0⟩:Node),(⟨15,([]:(List Nat)),0,1⟩:Node)]:(List Node))) 4 (.tail _ (.tail _ (.head _))) ha22 hm fun a35 h ha36 O hm=>?_;refine gH ?_;refine O.stC 1 (.tail _ (.head _)) [(ae 4 a35 ((v21++([(⟨15,([]:(List Nat)),0,0⟩:Node),(⟨15,([]:(List Nat)),0,1⟩:Node)]:(List Node))).map aj)),(ae 1 none (([]:List ByteArray).map Value.string)),(ae 3 none (([]:List Memo).map aD)),(ae 1 none (([]:List Nat).map i64))] fun h O=>?_;refine gH ?_;exact jx ((v21++([(⟨15,([]:(List Nat)),0,0⟩:Node),(⟨15,([]:(List Nat)),0,1⟩:Node)]:(List Node))),a35) hm ⟨ha36,O⟩
    ·refine gX ?_;exact jx (v21,a20) hm ⟨ha22,O⟩
   ·clear hm;rintro⟨v32,a31⟩ base h hm ⟨ha33,O⟩
    conv=>whnf
    refine jn (σ:=(List Node)×Option Nat) hm 178 [1,2,3,5,6] (fun s=>s.1) (fun (v38,a37) h=>(a37=none->v38=[])/\Own vars h0 [(sC g1 [nS,nS,nS,nS]),(sC g3 [(ae 4 a37 (v38.map aj)),(ae 1 none (([]:List ByteArray).map Value.string)),(ae 3 none (([]:List Memo).map aD)),(ae 1 none (([]:List Nat).map i64))]),(a37,.cells (flatC (v38.map aj)) false),(none,.cells (flatC (([]:List ByteArray).map Value.string)) false),(none,.cells (flatC (([]:List Memo).map aD)) false),(none,.cells (flatC (([]:List Nat).map i64)) false)] h) (fun (v38,a37)=>[]) (fun hm=>?_) ?_
    ·refine gX ?_;refine lw 178 [1,2,3,5,6] (σ:=((List Node)×Nat)×Option Nat) (fun s=>s.1) (fun ((v42,v43),a41) h=>(a41=none->v42=[])/\Own vars h0 [(sC g1 [nS,nS,nS,nS]),(sC g3 [(ae 4 a41 (v42.map aj)),(ae 1 none (([]:List ByteArray).map Value.string)),(ae 3 none (([]:List Memo).map aD)),(ae 1 none (([]:List Nat).map i64))]),(a41,.cells (flatC (v42.map aj)) false),(none,.cells (flatC (([]:List ByteArray).map Value.string)) false),(none,.cells (flatC (([]:List Memo).map aD)) false),(none,.cells (flatC (([]:List Nat).map i64)) false)] h) (fun ((v42,v43),a41)=>[(8,(i64 v43))]) ((v32,0),a31) hm ⟨ha33,O⟩ ?_;clear hm;rintro⟨⟨v42,v43⟩,a41⟩ nx45 base h hm ⟨ha44,O⟩
     conv=>whnf
     apply Cs;conv=>whnf
     refine jn hm 178 [1,2,3,5,6,8] (fun s=>s) (fun v46 h=>(a41=none->v42=[])/\Own vars h0 [(sC g1 [nS,nS,nS,nS]),(sC g3 [(ae 4 a41 (v42.map aj)),(ae 1 none (([]:List ByteArray).map Value.string)),(ae 3 none (([]:List Memo).map aD)),(ae 1 none (([]:List Nat).map i64))]),(a41,.cells (flatC (v42.map aj)) false),(none,.cells (flatC (([]:List ByteArray).map Value.string)) false),(none,.cells (flatC (([]:List Memo).map aD)) false),(none,.cells (flatC (([]:List Nat).map i64)) false)] h) (fun v46=>[(63,(.bool v46))]) (fun hm=>?_) ?_
     ·refine gX ?_;refine br hm (fun hm=>?_) fun hm=>?_
      ·refine gX ?_;exact jx (ltN v43 8) hm ⟨ha44,O⟩
      ·refine gX ?_;exact jx false hm ⟨ha44,O⟩
     ·clear hm;rintro v46 base h hm ⟨ha47,O⟩;refine gX ?_;refine br hm (fun hm=>?_) fun hm=>?_
      ·refine gX ?_
       first|refine⟨.inr (.inr (bz rfl O.i1 rfl rfl)),?_⟩|refine⟨.inr (.inl (by kernel_rfl)),?_⟩
       refine gX ?_;refine dF ?_;refine gX ?_;refine dF ?_;refine gX ?_;refine atF hm fun x49 hx49 hm=>?_;refine gH ?_;refine dF ?_;refine gX ?_
       first|refine⟨.inr (.inr (bz rfl O.i1 rfl rfl)),?_⟩|refine⟨.inr (.inl (by kernel_rfl)),?_⟩
       refine gX ?_;obtain⟨hgk,hn1,hn2,hm⟩:=hm;have h9:=hm;obtain⟨g50,rfl⟩:=Fk ha47 hn1;replace hm:=h9;refine⟨_,_,Ht (x:=p0) hgk hn1 hn2 O.has O.i2,?_⟩;refine gH ?_;refine⟨.inl (Ext.refl _),?_⟩;refine gH ?_;refine O.dJ (l:=([(jq p0.bus x49 (v42.map Node.kind))]:(List Node))) (enc:=aj) (s:=4) (z:=(.agg ⟨[(n8 0),nS,(i64 0),(i64 0)]⟩)) rfl rfl (by kernel_rfl) (by kernel_rfl) rfl rfl rfl rfl (fun _=>rfl) fun g51 h O=>?_;refine gH ?_;refine O.gR (enc:=aj) (l:=v42) (new:=([(jq p0.bus x49 (v42.map Node.kind))]:(List Node))) (s:=4) (b:=48) (.tail _ (.tail _ (.tail _ (.head _)))) cE rfl rfl rfl rfl rfl rfl rfl rfl (YOk.own O.i0 rfl (fun _=>rfl) rfl) (fun _=>rfl) (fun _=>rfl) (by decide) hm.1 fun a53 h ha54 O=>?_;refine gH ?_;replace hm:=hm.2;refine O.stC 1 (.tail _ (.tail _ (.head _))) [(ae 4 a53 ((v42++([(jq p0.bus x49 (v42.map Node.kind))]:(List Node))).map aj)),(ae 1 none (([]:List ByteArray).map Value.string)),(ae 3 none (([]:List Memo).map aD)),(ae 1 none (([]:List Nat).map i64))] fun h O=>?_;refine gH ?_;refine gX ?_;refine aH hm fun hm=>?_;refine gH ?_;exact jx (((v42++([(jq p0.bus x49 (v42.map Node.kind))]:(List Node))),(v43+1)),a53) hm ⟨ha54,(O.sel [1,2,3,4,5,6] (by decide))⟩
      ·refine gX ?_;exact jx (v42,a41) hm ⟨ha47,O⟩
    ·clear hm;rintro⟨v38,a37⟩ base h hm ⟨ha39,O⟩
     conv=>whnf
     apply Cs;conv=>whnf
     apply Cs;refine gH ?_;refine jn (σ:=(List Node)×Option Nat) hm 178 [1,2,3,9] (fun s=>s.1) (fun (v56,a55) h=>(a55=none->v56=[])/\Own vars h0 [(sC g1 [nS,nS,nS,nS]),(sC g3 [(ae 4 a55 (v56.map aj)),(ae 1 none (([]:List ByteArray).map Value.string)),(ae 3 none (([]:List Memo).map aD)),(ae 1 none (([]:List Nat).map i64))]),(a55,.cells (flatC (v56.map aj)) false),(none,.cells (flatC (([]:List ByteArray).map Value.string)) false),(none,.cells (flatC (([]:List Memo).map aD)) false),(none,.cells (flatC (([]:List Nat).map i64)) false)] h) (fun (v56,a55)=>[]) (fun hm=>?_) ?_
     ·refine gX ?_;refine lw 178 [1,2,3,5,6,9] (σ:=((List Node)×Nat)×Option Nat) (fun s=>s.1) (fun ((v60,v61),a59) h=>(a59=none->v60=[])/\Own vars h0 [(sC g1 [nS,nS,nS,nS]),(sC g3 [(ae 4 a59 (v60.map aj)),(ae 1 none (([]:List ByteArray).map Value.string)),(ae 3 none (([]:List Memo).map aD)),(ae 1 none (([]:List Nat).map i64))]),(a59,.cells (flatC (v60.map aj)) false),(none,.cells (flatC (([]:List ByteArray).map Value.string)) false),(none,.cells (flatC (([]:List Memo).map aD)) false),(none,.cells (flatC (([]:List Nat).map i64)) false)] h) (fun ((v60,v61),a59)=>[(10,(i64 v61))]) ((v38,0),a37) hm ⟨ha39,O⟩ ?_;clear hm;rintro⟨⟨v60,v61⟩,a59⟩ nx63 base h hm ⟨ha62,O⟩;refine gX ?_;refine br hm (fun hm=>?_) fun hm=>?_
      ·refine gX ?_
       first|refine⟨.inr (.inr (bz rfl O.i1 rfl rfl)),?_⟩|refine⟨.inr (.inl (by kernel_rfl)),?_⟩
       refine gX ?_;refine aH hm fun hm=>?_;refine gH ?_
       have hq:v61=0\/v61=1:=by have:=hm.1;omega
       replace hm:=hm.2
       rcases hq with hq|hq
       ·replace hm:=hm.1 hq;refine H8 (s:=1) (j:=v61) (q:=0) rfl rfl rfl rfl hq rfl rfl ?_;refine gH ?_;refine aCv hm wI8 fun hm=>?_;refine gH ?_;refine ri hm fun hm=>?_;refine gH ?_;refine O.dJ (l:=([(p0.data0%v38.length)]:(List Nat))) (enc:=i64) (s:=1) (z:=(i64 0)) rfl rfl (by kernel_rfl) (by kernel_rfl) rfl rfl rfl rfl (fun _=>rfl) fun g64 h O=>?_;refine gH ?_;obtain⟨x66,hx66,hm⟩:=hm;have h9:=hm;obtain⟨g67,rfl⟩:=fP ha62 hx66;replace hm:=h9;refine bb (s:=4) (j:=(v10.length+v61)) rfl rfl rfl rfl (by rw[List.length_map];exact ag hx66) ?_;refine gH ?_;refine O.store (n:=1) (cs':=(bp (flatC (v60.map aj)) (0+(v10.length+v61)*4+1) [(.slice (some ⟨g64,0,none⟩) 1 1)])) (.tail _ (.tail _ (.tail _ (.head _)))) rfl rfl rfl rfl (cW (enc:=aj) (s:=4) (k:=1) (n:=1) (fun _=>rfl) (ag hx66) (lbE rfl)) rfl rfl fun h O=>?_;refine gH ?_;refine CodeS.ghost (cs2':=flatC ((v60.set (v10.length+v61) { x66 with ins:=([(p0.data0%v38.length)]:(List Nat)) }).map aj)) O (.head _) (.tail _ (.tail _ (.tail _ (.head _)))) (t1:=100) (t2:=89) rfl rfl rfl rfl (fun h2 hq=>rJ (enc:=aj) (s:=4) (fun _=>rfl) hx66 (x:={ x66 with ins:=([(p0.data0%v38.length)]:(List Nat)) }) (k:=1) (v':=(ah 1 i64) ([(p0.data0%v38.length)]:(List Nat))) (lbE rfl) rfl (VLe.flM hq rfl (fun _=>rfl))) fun h O=>?_
        try rw[wj (enc:=aj) (l:=v60) (j:=(v10.length+v61)) (x:={ x66 with ins:=([(p0.data0%v38.length)]:(List Nat)) })] at O
        refine gX ?_;refine aH hm fun hm=>?_;refine gH ?_;exact jx (((v60.set (v10.length+v61) { x66 with ins:=([(p0.data0%v38.length)]:(List Nat)) }),(v61+1)),(some g67)) hm ⟨cE,(O.sel [1,2,3,4,5,6] (by decide))⟩
       ·replace hm:=hm.2 hq;refine H8 (s:=1) (j:=v61) (q:=1) rfl rfl rfl rfl hq rfl rfl ?_;refine gH ?_;refine aCv hm wI8 fun hm=>?_;refine gH ?_;refine ri hm fun hm=>?_;refine gH ?_;refine O.dJ (l:=([(p0.data1%v38.length)]:(List Nat))) (enc:=i64) (s:=1) (z:=(i64 0)) rfl rfl (by kernel_rfl) (by kernel_rfl) rfl rfl rfl rfl (fun _=>rfl) fun g68 h O=>?_;refine gH ?_;obtain⟨x70,hx70,hm⟩:=hm;have h9:=hm;obtain⟨g71,rfl⟩:=fP ha62 hx70;replace hm:=h9;refine bb (s:=4) (j:=(v10.length+v61)) rfl rfl rfl rfl (by rw[List.length_map];exact ag hx70) ?_;refine gH ?_;refine O.store (n:=1) (cs':=(bp (flatC (v60.map aj)) (0+(v10.length+v61)*4+1) [(.slice (some ⟨g68,0,none⟩) 1 1)])) (.tail _ (.tail _ (.tail _ (.head _)))) rfl rfl rfl rfl (cW (enc:=aj) (s:=4) (k:=1) (n:=1) (fun _=>rfl) (ag hx70) (lbE rfl)) rfl rfl fun h O=>?_;refine gH ?_;refine CodeS.ghost (cs2':=flatC ((v60.set (v10.length+v61) { x70 with ins:=([(p0.data1%v38.length)]:(List Nat)) }).map aj)) O (.head _) (.tail _ (.tail _ (.tail _ (.head _)))) (t1:=100) (t2:=89) rfl rfl rfl rfl (fun h2 hq=>rJ (enc:=aj) (s:=4) (fun _=>rfl) hx70 (x:={ x70 with ins:=([(p0.data1%v38.length)]:(List Nat)) }) (k:=1) (v':=(ah 1 i64) ([(p0.data1%v38.length)]:(List Nat))) (lbE rfl) rfl (VLe.flM hq rfl (fun _=>rfl))) fun h O=>?_
        try rw[wj (enc:=aj) (l:=v60) (j:=(v10.length+v61)) (x:={ x70 with ins:=([(p0.data1%v38.length)]:(List Nat)) })] at O
        refine gX ?_;refine aH hm fun hm=>?_;refine gH ?_;exact jx (((v60.set (v10.length+v61) { x70 with ins:=([(p0.data1%v38.length)]:(List Nat)) }),(v61+1)),(some g71)) hm ⟨cE,(O.sel [1,2,3,4,5,6] (by decide))⟩
      ·refine gX ?_;exact jx (v60,a59) hm ⟨ha62,O⟩
     ·clear hm;rintro⟨v56,a55⟩ base h hm ⟨ha57,O⟩;refine gX ?_;refine br hm (fun hm=>?_) fun hm=>?_
      ·refine gX ?_;refine nA rfl ?_;refine gH ?_;refine aCv hm wI8 fun hm=>?_;refine gH ?_;refine ri hm fun hm=>?_;refine gH ?_;refine O.dJ (l:=([(p0.port0%v38.length)]:(List Nat))) (enc:=i64) (s:=1) (z:=(i64 0)) rfl rfl (by kernel_rfl) (by kernel_rfl) rfl rfl rfl rfl (fun _=>rfl) fun g72 h O=>?_;refine gH ?_;refine nA rfl ?_;refine gH ?_;refine aCv hm wI8 fun hm=>?_;refine gH ?_;refine ri hm fun hm=>?_;refine gH ?_;refine nA rfl ?_;refine gH ?_;refine aCv hm wI8 fun hm=>?_;refine gH ?_;refine ri hm fun hm=>?_;refine gH ?_;refine O.dJ (l:=([(p0.port1%v38.length),(p0.port2%v38.length)]:(List Nat))) (enc:=i64) (s:=1) (z:=(i64 0)) rfl rfl (by kernel_rfl) (by kernel_rfl) rfl rfl rfl rfl (fun _=>rfl) fun g74 h O=>?_;refine gH ?_;refine nA rfl ?_;refine gH ?_;refine aCv hm wI8 fun hm=>?_;refine gH ?_;refine ri hm fun hm=>?_;refine gH ?_;refine O.AK (po (vs:=[(.agg ⟨[(.slice (some ⟨g72,0,none⟩) 1 1),(.slice (some ⟨g74,0,none⟩) 2 2),(i64 (p0.port3%v38.length))]⟩)]) (s:=3) (z:=(.agg ⟨[nS,nS,(i64 0)]⟩)) rfl rfl (by kernel_rfl) (by kernel_rfl) rfl rfl rfl rfl (by intro e he;simp only[List.mem_cons,List.not_mem_nil,or_false] at he;rcases he with rfl <;> rfl)) fun g76 h O=>?_;refine gH ?_;refine O.stC 1 (.tail _ (.tail _ (.tail _ (.tail _ (.head _))))) [(ae 4 a55 (v56.map aj)),(ae 1 none (([]:List ByteArray).map Value.string)),(.slice (some ⟨g76,0,none⟩) 1 1),(ae 1 none (([]:List Nat).map i64))] fun h O=>?_;refine gH ?_;refine jn (σ:=(List ByteArray)×Option Nat) hm 178 [1,2,3,9] (fun s=>s.1) (fun (v79,a78) h=>(a55=none->v56=[])/\(a78=none->v79=[])/\Own vars h0 [(sC g1 [nS,nS,nS,nS]),(sC g3 [(ae 4 a55 (v56.map aj)),(ae 1 a78 (v79.map Value.string)),(.slice (some ⟨g76,0,none⟩) 1 1),(ae 1 none (([]:List Nat).map i64))]),(a55,.cells (flatC (v56.map aj)) false),(a78,.cells (flatC (v79.map Value.string)) false),(sC g76 [(.slice (some ⟨g72,0,none⟩) 1 1),(.slice (some ⟨g74,0,none⟩) 2 2),(i64 (p0.port3%v38.length))]),(sC g72 (flatC (([(p0.port0%v38.length)]:(List Nat)).map i64))),(sC g74 (flatC (([(p0.port1%v38.length),(p0.port2%v38.length)]:(List Nat)).map i64))),(none,.cells (flatC (([]:List Nat).map i64)) false)] h) (fun (v79,a78)=>[]) (fun hm=>?_) ?_
       ·refine gX ?_;refine lw 178 [1,2,3,9] (σ:=((List ByteArray)×Nat)×Option Nat) (fun s=>s.1) (fun ((v84,v85),a83) h=>(a55=none->v56=[])/\(a83=none->v84=[])/\Own vars h0 [(sC g1 [nS,nS,nS,nS]),(sC g3 [(ae 4 a55 (v56.map aj)),(ae 1 a83 (v84.map Value.string)),(.slice (some ⟨g76,0,none⟩) 1 1),(ae 1 none (([]:List Nat).map i64))]),(a55,.cells (flatC (v56.map aj)) false),(a83,.cells (flatC (v84.map Value.string)) false),(sC g76 [(.slice (some ⟨g72,0,none⟩) 1 1),(.slice (some ⟨g74,0,none⟩) 2 2),(i64 (p0.port3%v38.length))]),(sC g72 (flatC (([(p0.port0%v38.length)]:(List Nat)).map i64))),(sC g74 (flatC (([(p0.port1%v38.length),(p0.port2%v38.length)]:(List Nat)).map i64))),(none,.cells (flatC (([]:List Nat).map i64)) false)] h) (fun ((v84,v85),a83)=>[(11,(i64 v85))]) ((([]:List ByteArray),0),none) hm ⟨ha57,(fun _=>rfl),(O.sel [3,4,5,6,0,2,1,8] (by decide))⟩ ?_;clear hm;rintro⟨⟨v84,v85⟩,a83⟩ nx88 base h hm ⟨ha86,ha87,O⟩;refine gX ?_;refine br hm (fun hm=>?_) fun hm=>?_
        ·refine gX ?_
         first|refine⟨.inr (.inr (bz rfl O.i1 rfl rfl)),?_⟩|refine⟨.inr (.inl (by kernel_rfl)),?_⟩
         refine gX ?_;refine ca (mg hm O.has) fun r89 hm=>?_;refine gH ?_;refine⟨.inl (Ext.refl _),?_⟩;refine gH ?_;refine O.dJ (l:=([r89]:(List ByteArray))) (enc:=Value.string) (s:=1) (z:=(.string (⟨#[]⟩:ByteArray))) rfl rfl (by kernel_rfl) (by kernel_rfl) rfl rfl rfl rfl (fun _=>rfl) fun g90 h O=>?_;refine gH ?_;refine O.gR (enc:=Value.string) (l:=v84) (new:=([r89]:(List ByteArray))) (s:=1) (b:=16) (.tail _ (.tail _ (.tail _ (.tail _ (.head _))))) ha87 rfl rfl rfl rfl rfl rfl rfl rfl (YOk.own O.i0 rfl (fun _=>rfl) rfl) (fun _=>rfl) (fun _=>rfl) (by decide) hm.1 fun a92 h ha93 O=>?_;refine gH ?_;replace hm:=hm.2;refine O.stC 1 (.tail _ (.tail _ (.head _))) [(ae 4 a55 (v56.map aj)),(ae 1 a92 ((v84++([r89]:(List ByteArray))).map Value.string)),(.slice (some ⟨g76,0,none⟩) 1 1),(ae 1 none (([]:List Nat).map i64))] fun h O=>?_;refine gH ?_;refine gX ?_;refine aH hm fun hm=>?_;refine gH ?_;exact jx (((v84++([r89]:(List ByteArray))),(v85+1)),a92) hm ⟨ha86,ha93,(O.sel [1,2,3,4,5,6,7,8] (by decide))⟩
        ·refine gX ?_;exact jx (v84,a83) hm ⟨ha86,ha87,O⟩
       ·clear hm;rintro⟨v79,a78⟩ base h hm ⟨ha80,ha81,O⟩
        conv=>whnf
        refine jn (σ:=(List Nat)×Option Nat) hm 178 [2,3,9] (fun s=>s.1) (fun (v95,a94) h=>(a55=none->v56=[])/\(a78=none->v79=[])/\(a94=none->v95=[])/\Own vars h0 [(sC g1 [nS,nS,nS,nS]),(sC g3 [(ae 4 a55 (v56.map aj)),(ae 1 a78 (v79.map Value.string)),(.slice (some ⟨g76,0,none⟩) 1 1),(ae 1 a94 (v95.map i64))]),(a55,.cells (flatC (v56.map aj)) false),(a78,.cells (flatC (v79.map Value.string)) false),(sC g76 [(.slice (some ⟨g72,0,none⟩) 1 1),(.slice (some ⟨g74,0,none⟩) 2 2),(i64 (p0.port3%v38.length))]),(sC g72 (flatC (([(p0.port0%v38.length)]:(List Nat)).map i64))),(sC g74 (flatC (([(p0.port1%v38.length),(p0.port2%v38.length)]:(List Nat)).map i64))),(a94,.cells (flatC (v95.map i64)) false)] h) (fun (v95,a94)=>[]) (fun hm=>?_) ?_
        ·refine gX ?_;refine lw 178 [1,2,3,9] (σ:=((List Nat)×Nat)×Option Nat) (fun s=>s.1) (fun ((v101,v102),a100) h=>(a55=none->v56=[])/\(a78=none->v79=[])/\(a100=none->v101=[])/\Own vars h0 [(sC g1 [nS,nS,nS,nS]),(sC g3 [(ae 4 a55 (v56.map aj)),(ae 1 a78 (v79.map Value.string)),(.slice (some ⟨g76,0,none⟩) 1 1),(ae 1 a100 (v101.map i64))]),(a55,.cells (flatC (v56.map aj)) false),(a78,.cells (flatC (v79.map Value.string)) false),(sC g76 [(.slice (some ⟨g72,0,none⟩) 1 1),(.slice (some ⟨g74,0,none⟩) 2 2),(i64 (p0.port3%v38.length))]),(sC g72 (flatC (([(p0.port0%v38.length)]:(List Nat)).map i64))),(sC g74 (flatC (([(p0.port1%v38.length),(p0.port2%v38.length)]:(List Nat)).map i64))),(a100,.cells (flatC (v101.map i64)) false)] h) (fun ((v101,v102),a100)=>[(12,(i64 v102))]) ((([]:List Nat),0),none) hm ⟨ha80,ha81,(fun _=>rfl),O⟩ ?_;clear hm;rintro⟨⟨v101,v102⟩,a100⟩ nx106 base h hm ⟨ha103,ha104,ha105,O⟩
         conv=>whnf
         apply Cs;conv=>whnf
         refine jn hm 178 [1,2,3,9,12] (fun s=>s) (fun v107 h=>(a55=none->v56=[])/\(a78=none->v79=[])/\(a100=none->v101=[])/\Own vars h0 [(sC g1 [nS,nS,nS,nS]),(sC g3 [(ae 4 a55 (v56.map aj)),(ae 1 a78 (v79.map Value.string)),(.slice (some ⟨g76,0,none⟩) 1 1),(ae 1 a100 (v101.map i64))]),(a55,.cells (flatC (v56.map aj)) false),(a78,.cells (flatC (v79.map Value.string)) false),(sC g76 [(.slice (some ⟨g72,0,none⟩) 1 1),(.slice (some ⟨g74,0,none⟩) 2 2),(i64 (p0.port3%v38.length))]),(sC g72 (flatC (([(p0.port0%v38.length)]:(List Nat)).map i64))),(sC g74 (flatC (([(p0.port1%v38.length),(p0.port2%v38.length)]:(List Nat)).map i64))),(a100,.cells (flatC (v101.map i64)) false)] h) (fun v107=>[(154,(.bool v107))]) (fun hm=>?_) ?_
         ·refine gX ?_;refine br hm (fun hm=>?_) fun hm=>?_
          ·refine gX ?_;exact jx (ltN v102 3) hm ⟨ha103,ha104,ha105,O⟩
          ·refine gX ?_;exact jx false hm ⟨ha103,ha104,ha105,O⟩
         ·clear hm;rintro v107 base h hm ⟨ha108,ha109,ha110,O⟩;refine gX ?_;refine br hm (fun hm=>?_) fun hm=>?_
          ·refine gX ?_
           first|refine⟨.inr (.inr (bz rfl O.i1 rfl rfl)),?_⟩|refine⟨.inr (.inl (by kernel_rfl)),?_⟩
           refine gX ?_;refine dF ?_;refine gX ?_;refine atF hm fun x112 hx112 hm=>?_;refine gH ?_;refine aCv hm wI8 fun hm=>?_;refine gH ?_;refine ri hm fun hm=>?_;refine gH ?_;refine O.dJ (l:=([(x112%v38.length)]:(List Nat))) (enc:=i64) (s:=1) (z:=(i64 0)) rfl rfl (by kernel_rfl) (by kernel_rfl) rfl rfl rfl rfl (fun _=>rfl) fun g113 h O=>?_;refine gH ?_;refine O.gR (enc:=i64) (l:=v101) (new:=([(x112%v38.length)]:(List Nat))) (s:=1) (b:=8) (.tail _ (.tail _ (.tail _ (.tail _ (.tail _ (.tail _ (.tail _ (.tail _ (.head _))))))))) ha110 rfl rfl rfl rfl rfl rfl rfl rfl (YOk.own O.i0 rfl (fun _=>rfl) rfl) (fun _=>rfl) (fun _=>rfl) (by decide) hm.1 fun a115 h ha116 O=>?_;refine gH ?_;replace hm:=hm.2;refine O.stC 1 (.tail _ (.tail _ (.head _))) [(ae 4 a55 (v56.map aj)),(ae 1 a78 (v79.map Value.string)),(.slice (some ⟨g76,0,none⟩) 1 1),(ae 1 a115 ((v101++([(x112%v38.length)]:(List Nat))).map i64))] fun h O=>?_;refine gH ?_;refine gX ?_;refine aH hm fun hm=>?_;refine gH ?_;exact jx (((v101++([(x112%v38.length)]:(List Nat))),(v102+1)),a115) hm ⟨ha108,ha109,ha116,(O.sel [1,2,3,4,5,6,7,8] (by decide))⟩
          ·refine gX ?_;exact jx (v101,a100) hm ⟨ha108,ha109,ha110,O⟩
        ·clear hm;rintro⟨v95,a94⟩ base h hm ⟨ha96,ha97,ha98,O⟩;refine gX ?_;refine nW hm fun hm=>?_;refine gH ?_;refine fz ?_;refine gH ?_;refine O.apL (enc:=i64) (l:=v95) (new:=([(v38.length-1)]:(List Nat))) 1 (.tail _ (.tail _ (.tail _ (.tail _ (.tail _ (.tail _ (.tail _ (.head _)))))))) ha98 hm fun a117 h ha118 O hm=>?_;refine gH ?_;refine O.stC 1 (.tail _ (.head _)) [(ae 4 a55 (v56.map aj)),(ae 1 a78 (v79.map Value.string)),(.slice (some ⟨g76,0,none⟩) 1 1),(ae 1 a117 ((v95++([(v38.length-1)]:(List Nat))).map i64))] fun h O=>?_;refine gX ?_;refine ldA O.i1 ?_;refine gH ?_;refine O.stC 4 (.head _) [(ae 4 a55 (v56.map aj)),(ae 1 a78 (v79.map Value.string)),(.slice (some ⟨g76,0,none⟩) 1 1),(ae 1 a117 ((v95++([(v38.length-1)]:(List Nat))).map i64))] fun h O=>?_;refine gX ?_
         refine⟨_,au rfl rfl O.i0 rfl rfl (lbE rfl) rfl,?_⟩;conv=>whnf
         obtain⟨hn119,hn120,hn121,hn122,hm⟩:=hm;exact⟨(⟨v56,v79,[(⟨([(p0.port0%v38.length)]:(List Nat)),([(p0.port1%v38.length),(p0.port2%v38.length)]:(List Nat)),(p0.port3%v38.length)⟩:Memo)],(v95++([(v38.length-1)]:(List Nat)))⟩:Circ),hm,O.ext,fun h2 F=>VLe.agg (LLe.cons (O.jR F (Nat.le_refl _) (.tail _ (.tail _ (.head _))) ha96 (fun _=>rfl)) (LLe.cons (O.jR F (Nat.le_refl _) (.tail _ (.tail _ (.tail _ (.head _)))) ha97 (fun _=>rfl)) (LLe.cons (O.B9 (es:=([(⟨([(p0.port0%v38.length)]:(List Nat)),([(p0.port1%v38.length),(p0.port2%v38.length)]:(List Nat)),(p0.port3%v38.length)⟩:Memo)]:(List Memo)).map aD) F (Nat.le_refl _) (.tail _ (.tail _ (.tail _ (.tail _ (.head _))))) rfl (aZ (enc:=aD) (s:=3) (fun _=>rfl) _) rfl (LLe.cons (O.gA F (Nat.le_refl _) (.tail _ (.tail _ (.tail _ (.tail _ (.tail _ (.head _)))))) (fun _=>rfl) hn121) (LLe.cons (O.gA F (Nat.le_refl _) (.tail _ (.tail _ (.tail _ (.tail _ (.tail _ (.tail _ (.head _))))))) (fun _=>rfl) hn122) (LLe.cons (VLe.refl _ _) (LLe.nil _))))) (LLe.cons (O.jR F (Nat.le_refl _) (.tail _ (.tail _ (.tail _ (.tail _ (.tail _ (.tail _ (.tail _ (.head _)))))))) ha118 (fun _=>rfl)) (LLe.nil _)))))⟩
      ·apply Cs;conv=>whnf
       refine jn (σ:=(List ByteArray)×Option Nat) hm 178 [1,2,3,9] (fun s=>s.1) (fun (v124,a123) h=>(a55=none->v56=[])/\(a123=none->v124=[])/\Own vars h0 [(sC g1 [nS,nS,nS,nS]),(sC g3 [(ae 4 a55 (v56.map aj)),(ae 1 a123 (v124.map Value.string)),(ae 3 none (([]:List Memo).map aD)),(ae 1 none (([]:List Nat).map i64))]),(a55,.cells (flatC (v56.map aj)) false),(a123,.cells (flatC (v124.map Value.string)) false),(none,.cells (flatC (([]:List Memo).map aD)) false),(none,.cells (flatC (([]:List Nat).map i64)) false)] h) (fun (v124,a123)=>[]) (fun hm=>?_) ?_
       ·refine gX ?_;refine lw 178 [1,2,3,9] (σ:=((List ByteArray)×Nat)×Option Nat) (fun s=>s.1) (fun ((v129,v130),a128) h=>(a55=none->v56=[])/\(a128=none->v129=[])/\Own vars h0 [(sC g1 [nS,nS,nS,nS]),(sC g3 [(ae 4 a55 (v56.map aj)),(ae 1 a128 (v129.map Value.string)),(ae 3 none (([]:List Memo).map aD)),(ae 1 none (([]:List Nat).map i64))]),(a55,.cells (flatC (v56.map aj)) false),(a128,.cells (flatC (v129.map Value.string)) false),(none,.cells (flatC (([]:List Memo).map aD)) false),(none,.cells (flatC (([]:List Nat).map i64)) false)] h) (fun ((v129,v130),a128)=>[(11,(i64 v130))]) ((([]:List ByteArray),0),none) hm ⟨ha57,(fun _=>rfl),O⟩ ?_;clear hm;rintro⟨⟨v129,v130⟩,a128⟩ nx133 base h hm ⟨ha131,ha132,O⟩;refine gX ?_;refine br hm (fun hm=>?_) fun hm=>?_
        ·refine gX ?_
         first|refine⟨.inr (.inr (bz rfl O.i1 rfl rfl)),?_⟩|refine⟨.inr (.inl (by kernel_rfl)),?_⟩
         refine gX ?_;refine ca (mg hm O.has) fun r134 hm=>?_;refine gH ?_;refine⟨.inl (Ext.refl _),?_⟩;refine gH ?_;refine O.dJ (l:=([r134]:(List ByteArray))) (enc:=Value.string) (s:=1) (z:=(.string (⟨#[]⟩:ByteArray))) rfl rfl (by kernel_rfl) (by kernel_rfl) rfl rfl rfl rfl (fun _=>rfl) fun g135 h O=>?_;refine gH ?_;refine O.gR (enc:=Value.string) (l:=v129) (new:=([r134]:(List ByteArray))) (s:=1) (b:=16) (.tail _ (.tail _ (.tail _ (.tail _ (.head _))))) ha132 rfl rfl rfl rfl rfl rfl rfl rfl (YOk.own O.i0 rfl (fun _=>rfl) rfl) (fun _=>rfl) (fun _=>rfl) (by decide) hm.1 fun a137 h ha138 O=>?_;refine gH ?_;replace hm:=hm.2;refine O.stC 1 (.tail _ (.tail _ (.head _))) [(ae 4 a55 (v56.map aj)),(ae 1 a137 ((v129++([r134]:(List ByteArray))).map Value.string)),(ae 3 none (([]:List Memo).map aD)),(ae 1 none (([]:List Nat).map i64))] fun h O=>?_;refine gH ?_;refine gX ?_;refine aH hm fun hm=>?_;refine gH ?_;exact jx (((v129++([r134]:(List ByteArray))),(v130+1)),a137) hm ⟨ha131,ha138,(O.sel [1,2,3,4,5,6] (by decide))⟩
        ·refine gX ?_;exact jx (v129,a128) hm ⟨ha131,ha132,O⟩
       ·clear hm;rintro⟨v124,a123⟩ base h hm ⟨ha125,ha126,O⟩
        conv=>whnf
        refine jn (σ:=(List Nat)×Option Nat) hm 178 [2,3,9] (fun s=>s.1) (fun (v140,a139) h=>(a55=none->v56=[])/\(a123=none->v124=[])/\(a139=none->v140=[])/\Own vars h0 [(sC g1 [nS,nS,nS,nS]),(sC g3 [(ae 4 a55 (v56.map aj)),(ae 1 a123 (v124.map Value.string)),(ae 3 none (([]:List Memo).map aD)),(ae 1 a139 (v140.map i64))]),(a55,.cells (flatC (v56.map aj)) false),(a123,.cells (flatC (v124.map Value.string)) false),(none,.cells (flatC (([]:List Memo).map aD)) false),(a139,.cells (flatC (v140.map i64)) false)] h) (fun (v140,a139)=>[]) (fun hm=>?_) ?_
        ·refine gX ?_;refine lw 178 [1,2,3,9] (σ:=((List Nat)×Nat)×Option Nat) (fun s=>s.1) (fun ((v146,v147),a145) h=>(a55=none->v56=[])/\(a123=none->v124=[])/\(a145=none->v146=[])/\Own vars h0 [(sC g1 [nS,nS,nS,nS]),(sC g3 [(ae 4 a55 (v56.map aj)),(ae 1 a123 (v124.map Value.string)),(ae 3 none (([]:List Memo).map aD)),(ae 1 a145 (v146.map i64))]),(a55,.cells (flatC (v56.map aj)) false),(a123,.cells (flatC (v124.map Value.string)) false),(none,.cells (flatC (([]:List Memo).map aD)) false),(a145,.cells (flatC (v146.map i64)) false)] h) (fun ((v146,v147),a145)=>[(12,(i64 v147))]) ((([]:List Nat),0),none) hm ⟨ha125,ha126,(fun _=>rfl),O⟩ ?_;clear hm;rintro⟨⟨v146,v147⟩,a145⟩ nx151 base h hm ⟨ha148,ha149,ha150,O⟩
         conv=>whnf
         apply Cs;conv=>whnf
         refine jn hm 178 [1,2,3,9,12] (fun s=>s) (fun v152 h=>(a55=none->v56=[])/\(a123=none->v124=[])/\(a145=none->v146=[])/\Own vars h0 [(sC g1 [nS,nS,nS,nS]),(sC g3 [(ae 4 a55 (v56.map aj)),(ae 1 a123 (v124.map Value.string)),(ae 3 none (([]:List Memo).map aD)),(ae 1 a145 (v146.map i64))]),(a55,.cells (flatC (v56.map aj)) false),(a123,.cells (flatC (v124.map Value.string)) false),(none,.cells (flatC (([]:List Memo).map aD)) false),(a145,.cells (flatC (v146.map i64)) false)] h) (fun v152=>[(154,(.bool v152))]) (fun hm=>?_) ?_
         ·refine gX ?_;refine br hm (fun hm=>?_) fun hm=>?_
          ·refine gX ?_;exact jx (ltN v147 3) hm ⟨ha148,ha149,ha150,O⟩
          ·refine gX ?_;exact jx false hm ⟨ha148,ha149,ha150,O⟩
         ·clear hm;rintro v152 base h hm ⟨ha153,ha154,ha155,O⟩;refine gX ?_;refine br hm (fun hm=>?_) fun hm=>?_
          ·refine gX ?_
           first|refine⟨.inr (.inr (bz rfl O.i1 rfl rfl)),?_⟩|refine⟨.inr (.inl (by kernel_rfl)),?_⟩
           refine gX ?_;refine dF ?_;refine gX ?_;refine atF hm fun x157 hx157 hm=>?_;refine gH ?_;refine aCv hm wI8 fun hm=>?_;refine gH ?_;refine ri hm fun hm=>?_;refine gH ?_;refine O.dJ (l:=([(x157%v38.length)]:(List Nat))) (enc:=i64) (s:=1) (z:=(i64 0)) rfl rfl (by kernel_rfl) (by kernel_rfl) rfl rfl rfl rfl (fun _=>rfl) fun g158 h O=>?_;refine gH ?_;refine O.gR (enc:=i64) (l:=v146) (new:=([(x157%v38.length)]:(List Nat))) (s:=1) (b:=8) (.tail _ (.tail _ (.tail _ (.tail _ (.tail _ (.tail _ (.head _))))))) ha155 rfl rfl rfl rfl rfl rfl rfl rfl (YOk.own O.i0 rfl (fun _=>rfl) rfl) (fun _=>rfl) (fun _=>rfl) (by decide) hm.1 fun a160 h ha161 O=>?_;refine gH ?_;replace hm:=hm.2;refine O.stC 1 (.tail _ (.tail _ (.head _))) [(ae 4 a55 (v56.map aj)),(ae 1 a123 (v124.map Value.string)),(ae 3 none (([]:List Memo).map aD)),(ae 1 a160 ((v146++([(x157%v38.length)]:(List Nat))).map i64))] fun h O=>?_;refine gH ?_;refine gX ?_;refine aH hm fun hm=>?_;refine gH ?_;exact jx (((v146++([(x157%v38.length)]:(List Nat))),(v147+1)),a160) hm ⟨ha153,ha154,ha161,(O.sel [1,2,3,4,5,6] (by decide))⟩
          ·refine gX ?_;exact jx (v146,a145) hm ⟨ha153,ha154,ha155,O⟩
        ·clear hm;rintro⟨v140,a139⟩ base h hm ⟨ha141,ha142,ha143,O⟩;refine gX ?_;refine nW hm fun hm=>?_;refine gH ?_;refine fz ?_;refine gH ?_;refine O.apL (enc:=i64) (l:=v140) (new:=([(v38.length-1)]:(List Nat))) 1 (.tail _ (.tail _ (.tail _ (.tail _ (.tail _ (.head _)))))) ha143 hm fun a162 h ha163 O hm=>?_;refine gH ?_;refine O.stC 1 (.tail _ (.head _)) [(ae 4 a55 (v56.map aj)),(ae 1 a123 (v124.map Value.string)),(ae 3 none (([]:List Memo).map aD)),(ae 1 a162 ((v140++([(v38.length-1)]:(List Nat))).map i64))] fun h O=>?_;refine gX ?_;refine ldA O.i1 ?_;refine gH ?_;refine O.stC 4 (.head _) [(ae 4 a55 (v56.map aj)),(ae 1 a123 (v124.map Value.string)),(ae 3 none (([]:List Memo).map aD)),(ae 1 a162 ((v140++([(v38.length-1)]:(List Nat))).map i64))] fun h O=>?_;refine gX ?_
         refine⟨_,au rfl rfl O.i0 rfl rfl (lbE rfl) rfl,?_⟩;conv=>whnf
         exact⟨(⟨v56,v124,([]:List Memo),(v140++([(v38.length-1)]:(List Nat)))⟩:Circ),hm,O.ext,fun h2 F=>VLe.agg (LLe.cons (O.jR F (Nat.le_refl _) (.tail _ (.tail _ (.head _))) ha141 (fun _=>rfl)) (LLe.cons (O.jR F (Nat.le_refl _) (.tail _ (.tail _ (.tail _ (.head _)))) ha142 (fun _=>rfl)) (LLe.cons (O.jR F (Nat.le_refl _) (.tail _ (.tail _ (.tail _ (.tail _ (.head _))))) (fun _=>rfl) (fun _=>rfl)) (LLe.cons (O.jR F (Nat.le_refl _) (.tail _ (.tail _ (.tail _ (.tail _ (.tail _ (.head _)))))) ha163 (fun _=>rfl)) (LLe.nil _)))))⟩
structure Pat where
 inp:List Nat
 state:List Nat
def aP (x:Pat):Value:=.agg ⟨[ah 1 n8 x.inp,ah 1 n8 x.state]⟩
theorem uk (l:List Nat):PureV (ah 1 n8 l):=cF fun _=>AllPure.cons (PureV.flat rfl) AllPure.nil
theorem rC (x:Pat):AllPure (cl (aP x)):=AllPure.cons (uk _) (AllPure.cons (uk _) AllPure.nil)
theorem FM (x:Pat):PureV (aP x):=PureV.agg (rC x)
structure Rsp where
 out:List Nat
 next:List Nat
structure SRun where
 circ:Circ
 nets:List Nat
structure LnZ where
 node:Nat
 pin:Int
deriving DecidableEq
def dC (x:LnZ):Value:=.agg ⟨[i64 x.node,z64 x.pin]⟩
theorem DL (x:LnZ):AllPure (cl (dC x)):=AllPure.cons (PureV.flat rfl) (AllPure.cons (PureV.flat rfl) AllPure.nil)
structure Flt where
 model:Nat
 line:LnZ
 value:Nat
 other:Nat
deriving DecidableEq
def az (x:Flt):Value:=.agg ⟨[n8 x.model,i64 x.line.node,z64 x.line.pin,n8 x.value,i64 x.other]⟩
theorem nO (x:Flt):AllPure (cl (az x)):=AllPure.cons (PureV.flat rfl) (AllPure.cons (PureV.flat rfl) (AllPure.cons (PureV.flat rfl) (AllPure.cons (PureV.flat rfl) (AllPure.cons (PureV.flat rfl) AllPure.nil))))
theorem EM (x:Flt):PureV (az x):=PureV.agg (nO x)
structure LnI where
 node:Int
 pin:Int
deriving DecidableEq
structure FData where
 model:Nat
 node:Nat
 pin:Nat
 other:Nat
 one:Bool
def Ln.toZ (x:Ln):LnZ:=⟨x.node,Int.ofNat x.pin⟩
theorem Dp (l:List Ln):ah 2 dC (l.map Ln.toZ)=ah 2 cc l:=by
 unfold ah;rw[List.map_map];rfl
theorem Bx (l:List (List Ln)):ah 1 (ah 2 dC) (l.map (List.map Ln.toZ))=ah 1 (ah 2 cc) l:=by
 show FL 1 _=FL 1 _
 rw[List.map_map];congr 1;exact List.map_congr_left fun x _=>Dp x
def FI (c:Circ):List (List LnZ):=(oa c).map (List.map Ln.toZ)
def jk (c:Circ) (K:List (List LnZ)->Prop):Prop:=FanOk c/\K (FI c)
theorem mv {c:Circ}{K:List (List LnZ)->Prop} (hm:jk c K) {h0:Heap} (hB:HasB vars h0):∃ r,K r/\CallD Tryz.prog NG 163 ⟨[ar c]⟩ h0 ((ah 1 (ah 2 dC)) r) h0:=by
 obtain⟨r,k,h⟩:=iM (K:=fun r=>K (r.map (List.map Ln.toZ))) hm hB;refine⟨_,k,?_⟩;rw[Bx];exact h
set_option maxHeartbeats 8000000
def cg (p0:CData) (K:Circ->Prop):Prop :=
 iO (⟨p0.inp,p0.dffs,p0.data0,p0.data1,p0.bus,false,p0.port0,p0.port1,p0.port2,p0.port3,p0.gates,p0.outs⟩:CData) (fun r5=>K r5)
theorem jr {p0:CData}{K:Circ->Prop} (hm:cg p0 K) {h0:Heap} (hB:HasB vars h0):∃ r,K r/\CallD Tryz.prog NG 20 ⟨[bO p0]⟩ h0 (ar r) h0:=by
 unfold cg at hm
 refine fw Tryz.func20 hB (enc:=ar) (fun r=>nF _) fun O=>?_;conv=>whnf
 refine gX ?_;refine O.new (GR rfl) fun g1 h O=>?_;refine gH ?_;refine O.new (ai (l:=[(.slice none 0 0),(.slice none 0 0),(.slice none 0 0),(.slice none 0 0)]) rfl rfl rfl) fun g3 h O=>?_;refine gH ?_;refine gX ?_;refine O.stC 1 (.tail _ (.head _)) [(n8 p0.inp),(n8 p0.dffs),(n8 p0.data0),(n8 p0.data1),(.bool p0.bus),(.bool false),(n8 p0.port0),(n8 p0.port1),(n8 p0.port2),(n8 p0.port3),((ah 4 A3) p0.gates),((ah 1 n8) p0.outs)] fun h O=>?_;refine gX ?_;refine ldA O.i1 ?_;refine gH ?_;refine ca (vD hm O.has) fun r5 hm=>?_;refine gH ?_;refine O.stC 4 (.head _) [((ah 4 aj) r5.nodes),((ah 1 Value.string) r5.names),((ah 3 aD) r5.mems),((ah 1 i64) r5.outs)] fun h O=>?_;refine gX ?_
 refine⟨_,au rfl rfl O.i0 rfl rfl (lbE rfl) rfl,?_⟩;conv=>whnf
 exact fe hm O
def cS (p0:Circ) (K:(List Nat)->Prop):Prop :=
 cO p0 ([0]:(List Nat)) (fun r1=>K r1)
theorem iP {p0:Circ}{K:(List Nat)->Prop} (hm:cS p0 K) {h0:Heap} (hB:HasB vars h0):∃ r,K r/\CallD Tryz.prog NG 86 ⟨[ar p0]⟩ h0 ((ah 1 i64) r) h0:=by
 unfold cS at hm
 refine fw Tryz.func86 hB (enc:=(ah 1 i64)) (fun r=>cF (fun _=>AllPure.cons (PureV.flat rfl) AllPure.nil)) fun O=>?_;conv=>whnf
 refine gX ?_;refine fz ?_;refine gX ?_;refine fz ?_;refine gH ?_;refine ca (il hm O.has) fun r1 hm=>?_;refine gX ?_;exact fe hm O
def cN (p0:Circ) (K:(List Nat)->Prop):Prop :=
 cO p0 ([14]:(List Nat)) (fun r1=>K r1)
theorem iY {p0:Circ}{K:(List Nat)->Prop} (hm:cN p0 K) {h0:Heap} (hB:HasB vars h0):∃ r,K r/\CallD Tryz.prog NG 63 ⟨[ar p0]⟩ h0 ((ah 1 i64) r) h0:=by
 unfold cN at hm
 refine fw Tryz.func63 hB (enc:=(ah 1 i64)) (fun r=>cF (fun _=>AllPure.cons (PureV.flat rfl) AllPure.nil)) fun O=>?_;conv=>whnf
 refine gX ?_;refine fz ?_;refine gX ?_;refine fz ?_;refine gH ?_;refine ca (il hm O.has) fun r1 hm=>?_;refine gX ?_;exact fe hm O
def eQ (p0:(List Nat)) (K:Int->Prop):Prop :=
 an (α:=Unit) (fun k1=>aF (S:=Nat) (fun v2 nx3=>((ltN v2 p0.length)=true->∃ x4,p0[v2]?=some x4/\((ltN 3 x4)=true->K (Int.ofNat v2))/\((ltN 3 x4)=false->v2+1<2 ^ 63/\nx3 (v2+1)))/\((ltN v2 p0.length)=false->k1 ())) 0) (fun _=>K (Int.negSucc 0))
theorem oN {p0:(List Nat)}{K:Int->Prop} (hm:eQ p0 K) {h0:Heap} (hB:HasB vars h0):∃ r,K r/\CallD Tryz.prog NG 168 ⟨[(ah 1 n8) p0,(.func (.func 88) ⟨[]⟩ ⟨[]⟩)]⟩ h0 (z64 r) h0:=by
 unfold eQ at hm
 refine fw Tryz.func168 hB (enc:=z64) (fun r=>PureV.flat rfl) fun O=>?_;conv=>whnf
 apply Cs;conv=>whnf
 apply Cs;refine gH ?_;refine jn hm 19 [] (fun s=>s) (fun _ h=>Own vars h0 [] h) (fun _=>[]) (fun hm=>?_) ?_
 ·refine gX ?_;refine lw 19 [0,1,7] (σ:=Nat) (fun s=>s) (fun v2 h=>Own vars h0 [] h) (fun v2=>[(8,(i64 v2))]) 0 hm O ?_;clear hm;rintro v2 nx3 base h hm O;refine gX ?_;refine br hm (fun hm=>?_) fun hm=>?_
  ·refine gX ?_;refine atF hm fun x4 hx4 hm=>?_;refine gH ?_;refine fg Tryz.func88 ?_;refine gX ?_;refine br hm (fun hm=>?_) fun hm=>?_
   ·refine gX ?_;exact fe hm O
   ·refine gX ?_;refine aH hm fun hm=>?_;refine gH ?_;exact jx (v2+1) hm O
  ·refine gX ?_;exact jx () hm O
 ·clear hm;rintro _ base h hm O;refine gX ?_;exact fe hm O
def db (p0:(List Nat)) (K:Bool->Prop):Prop :=
 eQ p0 (fun r1=>K (!ltI r1 (Int.ofNat 0)))
theorem ku {p0:(List Nat)}{K:Bool->Prop} (hm:db p0 K) {h0:Heap} (hB:HasB vars h0):∃ r,K r/\CallD Tryz.prog NG 87 ⟨[(ah 1 n8) p0,(.func (.func 88) ⟨[]⟩ ⟨[]⟩)]⟩ h0 (Value.bool r) h0:=by
 unfold db at hm
 refine fw Tryz.func87 hB (enc:=Value.bool) (fun r=>PureV.flat rfl) fun O=>?_;conv=>whnf
 refine gX ?_;refine ca (oN hm O.has) fun r1 hm=>?_;refine gX ?_;exact fe hm O
def gE (p0:Circ) (p1:Pat) (K:Nat->Prop):Prop :=
 an (α:=Bool) (fun k2=>((ltN 0 p0.mems.length)=true->k2 true)/\((ltN 0 p0.mems.length)=false->cO p0 ([15]:(List Nat)) (fun r3=>k2 (ltN 0 r3.length)))) (fun v1=>(v1=true->K 7)/\(v1=false->an (α:=Bool) (fun k5=>cS p0 (fun r6=>((neN p1.inp.length r6.length)=true->k5 true)/\((neN p1.inp.length r6.length)=false->cN p0 (fun r7=>k5 (neN p1.state.length r7.length))))) (fun v4=>(v4=true->K 8)/\(v4=false->an (α:=Bool) (fun k9=>db p1.inp (fun r10=>(r10=true->k9 true)/\(r10=false->db p1.state (fun r11=>k9 r11)))) (fun v8=>(v8=true->K 1)/\(v8=false->K 0))))))
theorem sZ {p0:Circ}{p1:Pat}{K:Nat->Prop} (hm:gE p0 p1 K) {h0:Heap} (hB:HasB vars h0):∃ r,K r/\CallD Tryz.prog NG 38 ⟨[ar p0,aP p1]⟩ h0 (i64 r) h0:=by
 unfold gE at hm
 refine fw Tryz.func38 hB (enc:=i64) (fun r=>PureV.flat rfl) fun O=>?_;conv=>whnf
 refine gX ?_;refine fz ?_;refine gH ?_;refine fz ?_;refine gH ?_
 apply Cs;conv=>whnf
 apply Cs;conv=>whnf
 refine jn hm 43 [2,3] (fun s=>s) (fun v1 h=>Own vars h0 [] h) (fun v1=>[(5,(.bool v1))]) (fun hm=>?_) ?_
 ·refine gX ?_;refine br hm (fun hm=>?_) fun hm=>?_
  ·refine gX ?_;exact jx true hm O
  ·refine gX ?_;refine fz ?_;refine gH ?_;refine ca (il hm O.has) fun r3 hm=>?_;refine gH ?_;exact jx (ltN 0 r3.length) hm O
 ·clear hm;rintro v1 base h hm O;refine gX ?_;refine br hm (fun hm=>?_) fun hm=>?_
  ·refine gX ?_;exact fe hm O
  ·refine jn hm 43 [3] (fun s=>s) (fun v4 h=>Own vars h0 [] h) (fun v4=>[(17,(.bool v4))]) (fun hm=>?_) ?_
   ·refine gX ?_;refine dF ?_;refine gX ?_;refine dF ?_;refine gX ?_;refine ca (iP hm O.has) fun r6 hm=>?_;refine gH ?_;refine⟨.inl (Ext.refl _),?_⟩;refine gH ?_;refine br hm (fun hm=>?_) fun hm=>?_
    ·refine gX ?_;exact jx true hm O
    ·refine gX ?_;refine dF ?_;refine gX ?_;refine dF ?_;refine gX ?_;refine ca (iY hm O.has) fun r7 hm=>?_;refine gH ?_;refine⟨.inl (Ext.refl _),?_⟩;refine gH ?_;exact jx (neN p1.state.length r7.length) hm O
   ·clear hm;rintro v4 base h hm O;refine gX ?_;refine br hm (fun hm=>?_) fun hm=>?_
    ·refine gX ?_;exact fe hm O
    ·refine jn hm 43 [] (fun s=>s) (fun v8 h=>Own vars h0 [] h) (fun v8=>[(34,(.bool v8))]) (fun hm=>?_) ?_
     ·refine gX ?_;refine ca (ku hm O.has) fun r10 hm=>?_;refine gH ?_;refine br hm (fun hm=>?_) fun hm=>?_
      ·refine gX ?_;exact jx true hm O
      ·refine gX ?_;refine ca (ku hm O.has) fun r11 hm=>?_;refine gH ?_;exact jx r11 hm O
     ·clear hm;rintro v8 base h hm O;refine gX ?_;refine br hm (fun hm=>?_) fun hm=>?_
      ·refine gX ?_;exact fe hm O
      ·refine gX ?_;exact fe hm O
def fj (p0:Circ) (p1:Pat) (K:Nat->Prop):Prop :=
 cw p0 (fun r1=>((neN r1 0)=true->K r1)/\((neN r1 0)=false->gE p0 p1 (fun r2=>K r2)))
theorem sw {p0:Circ}{p1:Pat}{K:Nat->Prop} (hm:fj p0 p1 K) {h0:Heap} (hB:HasB vars h0):∃ r,K r/\CallD Tryz.prog NG 122 ⟨[ar p0,aP p1]⟩ h0 (i64 r) h0:=by
 unfold fj at hm
 refine fw Tryz.func122 hB (enc:=i64) (fun r=>PureV.flat rfl) fun O=>?_;conv=>whnf
 refine gX ?_;refine fz ?_;refine gH ?_;refine fz ?_;refine gX ?_;refine ca (jl hm O.has) fun r1 hm=>?_;refine gX ?_;refine br hm (fun hm=>?_) fun hm=>?_
 ·refine gX ?_;exact fe hm O
 ·refine gX ?_;refine ca (sZ hm O.has) fun r2 hm=>?_;refine gX ?_;exact fe hm O
end Go.Proofs.YtgiedjgdlckahaaGreatDoor
