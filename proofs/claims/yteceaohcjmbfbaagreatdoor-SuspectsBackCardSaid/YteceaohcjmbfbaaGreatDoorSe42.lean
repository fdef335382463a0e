/-
  Base, Logic, Logic3, Door, Fl1, Circ1, Man1, Short, N1, P1, P2, U1: parts of the proof.
-/
import Derived.Test.YteceaohcjmbfbaaGreatDoorSe41
import Derived.Test.YteceaohcjmbfbaaGreatDoorProg
import Derived.KernelRfl
import Derived.Test.YteceaohcjmbfbaaGreatDoorTie
import Derived.LaidMore
import Derived.Stop.Joined
import Derived.ChangeAt
import Derived.SevenTiedAt
namespace Go.Proofs.YteceaohcjmbfbaaGreatDoor
open Go.Abs
set_option maxRecDepth 100000
abbrev NG:Nat:=2
def u8 (a:Int):Value:=.int .u8 a
theorem hM:Tryz.prog.follows .mixedOrders=true:=by kernel_rfl
theorem CD:Tryz.prog.funcs.toList.all (jg 2)=true:=by kernel_rfl
theorem hP (f:FuncId) (fn:Func) (_:([]:List FuncId).contains f=false) (h:Tryz.prog.funcs[f]?=some fn):jg 2 fn=true:=by
 have:=List.all_eq_true.1 CD fn (by
  have:=Array.mem_of_getElem? h
  simpa using this)
 exact this
def i2 (a b:Int):List Value:=[.int .i64 a,.int .i64 b]
def qj:List Value:=i2 0 0++i2 0 0++i2 0 0++i2 1 1++i2 1 1++i2 2 16++i2 2 16++i2 2 16++i2 2 16++i2 2 16++i2 2 16++i2 3 3++i2 2 2++i2 1 16++i2 1 1++i2 0 0
def vars:List AObj:=[.cells qj true,.dead]
def isTrue:Option (Value×Heap)->Bool
 |some (.bool true,_)=>true
 |_=>false
theorem qS {x:Option (Value×Heap)} (h:isTrue x=true):∃ h',x=some (.bool true,h'):=by
 unfold isTrue at h
 split at h
 ·exact⟨_,rfl⟩
 ·cases h
def bare:List AObj:=List.replicate NG .dead
noncomputable def vx (l:List AObj) (f:FuncId) (vs:Array Value):Option Value:=(nq Tryz.prog [] (mj Tryz.prog) 60 f vs (dP l)).map (·.1)
theorem uO {l:List AObj}{f:FuncId}{vs:Array Value}{v:Value} (e:vx l f vs=some v):∃ h',CallD Tryz.prog NG f vs (dP l) v h':=by
 unfold vx at e
 cases q:nq Tryz.prog [] (mj Tryz.prog) 60 f vs (dP l) with
 |none=>simp[q] at e
 |some r =>
  obtain⟨v',h'⟩:=r
  simp[q] at e
  subst e
  exact⟨h',(gC hM hP (fun f vs h v e=>hG f vs h v e) 60 _ _ _ _ _ q).1⟩
theorem vY {h:Heap} (hs:NG<=h.size):Bears NG (dP bare) h:=by
 refine⟨rfl,hs,fun g o e=>.inl ?_⟩
 rw[dN] at e
 have:=List.mem_of_getElem? e
 simp only[bare,List.mem_replicate] at this
 exact this.2
theorem Ay {f:FuncId}{vs:Array Value}{v:Value}{h:Heap} (e:vx bare f vs=some v) (h1:vs.all plain=true) (h2:eM v=true):CallD Tryz.prog NG f vs h v h:=by
 obtain⟨h',c⟩:=uO e
 exact CallD.sized fun hs=>c.lift h1 h2 (vY hs)
variable {h:Heap}
def vj (h:Heap):Prop:=h.get 0=some (.cells qj true)
theorem vj.ext {h h1:Heap} (v:vj h) (e:Ext h h1):vj h1:=e.get v
theorem Ad {g:Nat}{o:AObj} (e:vars[g]?=some o):o=.dead\/(g=0/\o=.cells qj true):=by
 match g,e with
 |0,e=>simp only[vars,List.getElem?_cons_zero,Option.some.injEq] at e;exact .inr ⟨rfl,e.symm⟩
 |1,e=>simp only[vars,List.getElem?_cons_succ,List.getElem?_cons_zero,Option.some.injEq] at e;exact .inl e.symm
theorem kb {h:Heap} (hs:NG<=h.size) (v:vj h):Bears NG (dP vars) h:=by
 refine⟨rfl,hs,fun g o e=>?_⟩
 rw[dN] at e
 rcases Ad e with rfl|⟨rfl,rfl⟩
 ·exact .inl rfl
 ·exact .inr ⟨_,rfl,v,by kernel_rfl⟩
theorem AX {f:FuncId}{vs:Array Value}{v:Value}{h:Heap} (hv:vj h) (e:vx vars f vs=some v) (h1:vs.all plain=true) (h2:eM v=true):CallD Tryz.prog NG f vs h v h:=by
 obtain⟨h',c⟩:=uO e
 exact CallD.sized fun hs=>c.lift h1 h2 (kb hs hv)
theorem kinds {k:Int} (h:0<=k):k=0\/k=1\/k=2\/k=3\/k=4\/k=5\/k=6\/k=7\/k=8\/k=9\/k=10\/k=11\/k=12\/k=13\/k=14\/k=15\/∃ n:Nat,k=Int.ofNat (n+16):=by
 by_cases c:k<16
 ·omega
 ·iterate 16 refine .inr ?_
  exact⟨(k-16).toNat,by simp only[Int.ofNat_eq_natCast];omega⟩
def loL (k:Int):Int:=if k<16 then ([0,0,0,1,1,2,2,2,2,2,2,3,2,1,1,0]:List Int).getD k.toNat 0 else 0
def hiL (k:Int):Int:=if k<16 then ([0,0,0,1,1,16,16,16,16,16,16,3,2,16,1,0]:List Int).getD k.toNat 0 else -1
theorem wS (n:Nat):loL (Int.ofNat (n+16))=0:=by unfold loL;rw[if_neg (by simp only[Int.ofNat_eq_natCast];omega)]
theorem A8 (n:Nat):hiL (Int.ofNat (n+16)) = -1:=by unfold hiL;rw[if_neg (by simp only[Int.ofNat_eq_natCast];omega)]
theorem Ag {k:Int} (hk:0<=k) (hk2:k<256) {h:Heap} (hv:vj h):CallD Tryz.prog NG 63 #[u8 k] h (.tuple #[.int .i64 (loL k),.int .i64 (hiL k)]) h:=by
 rcases kinds hk with rfl|rfl|rfl|rfl|rfl|rfl|rfl|rfl|rfl|rfl|rfl|rfl|rfl|rfl|rfl|rfl|⟨n,rfl⟩
 iterate 16 exact AX hv (by kernel_rfl) (by kernel_rfl) (by kernel_rfl)
 rw[wS,A8]
 refine fnP hM Tryz.func63 rfl (hP _ _ rfl Tryz.func63) (lbE rfl) (by kernel_rfl) ?_;(conv=>whnf);repeat(first|apply Cs|apply Rs|apply Rx);conv=>whnf
 refine⟨_,gG rfl rfl rfl (IntWalk.i64_in _ (by omega)),?_⟩
 ((conv=>whnf);repeat(first|apply Cs|apply Rs|apply Rx);conv=>whnf)
 refine⟨true,rfl,fun _=>?_,fun hc=>by cases hc⟩
 ((conv=>whnf);repeat(first|apply Cs|apply Rs|apply Rx);conv=>whnf)
 exact⟨rfl,Ext.refl _⟩
variable {h:Heap} {a:Option Addr} {n cap:Nat} {l:List Int}
theorem di {a b:Int} (h:ltI a b=true):a<b:=by rw[dB] at h;simpa using h
theorem dj {a b:Int} (h:ltI a b=false):b<=a:=by rw[dB] at h;simpa using h
end Go.Proofs.YteceaohcjmbfbaaGreatDoor

namespace Go.Proofs.YteceaohcjmbfbaaGreatDoor
open Go.Abs Go.ChangeShapes Go.RowKit Go.ChangeAt
set_option maxRecDepth 100000
theorem own:ownKnob Tryz.prog.godebug=none:=by kernel_rfl
theorem laidOut:laidOutB Tryz.prog=true:=by kernel_rfl
def laid : List (String × DataW Unit) := [("probecard/logic.fanins", Rows.laid_probecard_logic_fanins)]
theorem xd : Tryz.prog.globalNamed "probecard/logic.fanins" = some 0 := by kernel_rfl
theorem zh (os:Os) (args:Array Value):laidMetH Tryz.prog laid ((World.doorLaid Tryz.prog 400 os).forCall (fun _ _=>0) ⟨#[],args,[]⟩).memory :=
 laidMetH_of_parts3 (fuel:=8) (laidMet_of_run' 8 (by kernel_rfl) (by kernel_rfl)) (by kernel_rfl) (by kernel_rfl)
theorem yu:xX Tryz.prog 5 (((Tryz.prog.globals[0]?).map (·.type)).getD 0)=true:=by kernel_rfl
theorem vQ:flat (H:=Unit) Rows.laid_probecard_logic_fanins=some qj:=by kernel_rfl
theorem AR {W:World} (h:laidMetH Tryz.prog laid W) (i:Nat):W.cell? ⟨0,i,none⟩=qj[i]?:=by
 rw[MakeChecks.laidMetH_plain _ _ _ (by kernel_rfl)] at h
 obtain⟨ps,⟨g0,t0,cs0,f0,p0,q0,hg0,ht0,hv0,hd0,_⟩,_,_⟩:=h
 have ht:t0=(((Tryz.prog.globals[0]?).map (·.type)).getD 0):=by
  obtain rfl:=Option.some.inj (xd.symm.trans hg0)
  rw[ht0];rfl
 subst ht
 obtain rfl:=Option.some.inj (xd.symm.trans hg0)
 exact wJ hg0 hv0 hd0 yu vQ i
theorem block {W:World} (h:W.ShapedOpen Tryz.prog) (g:Nat) (hg:g<Tryz.prog.globals.size) (hb:(((begin Tryz.prog (fun _ _=>0) default).world.heap[g]?).bind Obj.row?).isSome=true):∃ C ty fr,W.heap[g]?=some (.cells C ty fr):=by
 obtain⟨⟨zero,t⟩,e⟩:=Option.isSome_iff_exists.1 hb
 obtain⟨cs,h1,_⟩:=h.1 g zero t hg e
 exact⟨cs,t,_,h1⟩
theorem start {W:World} (hsh:W.ShapedOpen Tryz.prog) (hl:laidMetH Tryz.prog laid W):∃ l0 l1:Abs.Loc,HRel 2 (iB [l0,l1] W) (dP vars) W:=by
 obtain⟨C0,ty0,fr0,h0⟩:=block hsh 0 (of_decide_eq_true (by kernel_rfl)) (by kernel_rfl)
 obtain⟨C1,ty1,fr1,h1⟩:=block hsh 1 (of_decide_eq_true (by kernel_rfl)) (by kernel_rfl)
 have lt:∀ (g:Nat) (C:Array Value) (ty:TypeId) (fr:Nat×Nat),W.heap[g]?=some (.cells C ty fr)->g<W.heap.size:=fun g C ty fr e=>(Array.getElem?_eq_some_iff.1 e).1
 refine⟨⟨0,0,C0.size⟩,⟨1,0,C1.size⟩,HRel.start vars [_,_] rfl ?_ ?_ ?_ ?_⟩
 ·intro g hg
  match g,hg with
  |0,_=>exact⟨_,rfl,rfl,rfl⟩
  |1,_=>exact⟨_,rfl,rfl,rfl⟩
 ·intro l hl
  simp only[List.mem_cons,List.not_mem_nil,or_false] at hl
  rcases hl with rfl|rfl
  ·exact lt _ _ _ _ h0
  ·exact lt _ _ _ _ h1
 ·intro g l o e1 e2
  match g,e1,e2 with
  |0,e1,e2 =>
   simp only[List.getElem?_cons_zero,Option.some.injEq] at e1
   simp only[vars,List.getElem?_cons_zero,Option.some.injEq] at e2
   subst e1 e2
   exact ORel.za h0 (fun i _=>AR hl i) (by kernel_rfl)
  |1,e1,e2 =>
   simp only[vars,List.getElem?_cons_zero,List.getElem?_cons_succ,Option.some.injEq] at e2
   subst e2
   trivial
  |g+2,e1,e2=>simp at e1
 ·intro o ho
  simp only[vars,List.mem_cons,List.not_mem_nil,or_false] at ho
  rcases ho with rfl|rfl <;> rfl
theorem AU {H:Type}{enc:TypeId×Value->H}{f:FuncId}{fn:Func}{c:Code}{d:Nat} (L:List (Sh×Bool)) (hfn:Tryz.prog.funcs[f]?=some fn) (hb:fn.body=some c) (hp:qC Tryz.prog d fn.params.toList L)
  (call:∀ x:yw L,wfL L x->FnV Tryz.prog NG vars f ⟨zC L x⟩ (.bool true))
  (W:World) (base:Nat) (args:Array Value) (hsh:W.ShapedOpen Tryz.prog) (_:args.size=fn.params.size)
  (hval:∀ (j:Nat) t v,fn.params[j]?=some t->args[j]?=some v->Value.okWide Tryz.prog W .any base t v) (hl:laidMetH Tryz.prog laid W)
  (hA:∃ (ds:List (DataW H)) (p:List MemPlace),DataW.TrodAll enc Tryz.prog W 0 (fun _=>true) true fn.params.toList args.toList ds p) :
  Calls Tryz.prog f args W fun e W'=>e=.returned (.bool true)/\Below W.heap.size W W':=by
 obtain⟨ds,p,hA⟩:=hA
 obtain⟨l0,l1,H⟩:=start hsh hl
 obtain⟨x,hw,r⟩:=sU (ι:=iB [l0,l1] W) (fun b C ty fr e=>by simp only[iB,e]) fn.params.toList L hp args.toList ds p hA (fun j t v e1 e2=>hval j t v (by simpa using e1) (by simpa using e2))
 refine uo hfn hb ((call x hw).call _ fun i o e=>by rw[dN];exact e) rfl H ?_ ?_
 ·intro o ho
  simp only[vars,List.mem_cons,List.not_mem_nil,or_false] at ho
  rcases ho with rfl|rfl <;> rfl
 ·have:=aO.array r
  simpa using this
theorem yM {n:Int} (h:(Lit.int .u8 n).wf=true):0<=n/\n<256:=by
 simp[Lit.wf,IntKind.min,IntKind.max,IntKind.signed,IntKind.bits] at h
 omega
theorem pE (n:Nat) (h:n<256):IntKind.i64.wrap (Int.ofNat n)=Int.ofNat n:=IntWalk.i64_in _ (by simp only[Int.ofNat_eq_natCast];omega)
theorem oy:∀ o∈vars,o.fz=o:=by
 intro o m
 simp only[vars,List.mem_cons,List.not_mem_nil,or_false] at m
 rcases m with rfl|rfl <;> rfl
theorem nF {h:Heap} (b:HasB vars h):vj h:=b 0 _ rfl
theorem tE {h:Heap} (b:HasB vars h):NG<=h.size:=Heap.ak (b 1 _ rfl)
theorem Cf {f:FuncId}{vs:Array Value}{r:Value} (hr:qe r=true) (c:∀ h,vj h->CallD Tryz.prog NG f vs h r h):FnV Tryz.prog NG vars f vs r:=⟨PureV.qe hr,fun h b=>c h (nF b)⟩
structure Node where
 kind:Nat
 ins:List Nat
 mem:Nat
 bit:Nat
structure Memo where
 addr:List Nat
 data:List Nat
 write:Nat
structure Circ where
 nodes:List Node
 names:List ByteArray
 mems:List Memo
 outs:List Nat
def al (x:Node):Value:=.agg ⟨[u8 (Int.ofNat x.kind),FL 1 (x.ins.map i64),i64 x.mem,i64 x.bit]⟩
def ax (m:Memo):Value:=.agg ⟨[FL 1 (m.addr.map i64),FL 1 (m.data.map i64),i64 m.write]⟩
def aA (c:Circ):Value:=.agg ⟨[FL 4 (c.nodes.map al),FL 1 (c.names.map .string),FL 3 (c.mems.map ax),FL 1 (c.outs.map i64)]⟩
theorem jt (l:List Nat):PureV (FL 1 (l.map i64)):=PureV.list fun _=>aj.cons (PureV.flat rfl) aj.nil
theorem xK (x:Node):PureV (al x):=PureV.agg (aj.cons (PureV.flat rfl) (aj.cons (jt _) (aj.cons (PureV.flat rfl) (aj.cons (PureV.flat rfl) aj.nil))))
theorem wN (x:Node):aj (cl (al x)):=aj.cons (PureV.flat rfl) (aj.cons (jt _) (aj.cons (PureV.flat rfl) (aj.cons (PureV.flat rfl) aj.nil)))
theorem ye (m:Memo):aj (cl (ax m)):=aj.cons (jt _) (aj.cons (jt _) (aj.cons (PureV.flat rfl) aj.nil))
theorem wK (c:Circ):aj (cl (aA c)) :=
 aj.cons (PureV.list wN) (aj.cons (PureV.list fun _=>aj.cons (PureV.flat rfl) aj.nil) (aj.cons (PureV.list ye) (aj.cons (jt _) aj.nil)))
theorem oA (c:Circ):PureV (aA c):=PureV.agg (wK c)
structure GData where
 kind:Nat
 a:Nat
 b:Nat
 d:Nat
structure CData where
 inp:Nat
 dffs:Nat
 data0:Nat
 data1:Nat
 bus:Bool
 mem:Bool
 port0:Nat
 port1:Nat
 port2:Nat
 port3:Nat
 gates:List GData
 outs:List Nat
def rZ (g:GData):Value:=.agg ⟨[u8 (Int.ofNat g.kind),u8 (Int.ofNat g.a),u8 (Int.ofNat g.b),u8 (Int.ofNat g.d)]⟩
def bD (x:CData):Value:=.agg ⟨[n8 x.inp,n8 x.dffs,n8 x.data0,n8 x.data1,.bool x.bus,.bool x.mem,n8 x.port0,n8 x.port1,n8 x.port2,n8 x.port3,FL 4 (x.gates.map rZ),FL 1 (x.outs.map n8)]⟩
structure GOk (g:GData):Prop where
 kind:g.kind<256
 a:g.a<256
 b:g.b<256
 d:g.d<256
structure COk (x:CData):Prop where
 inp:x.inp<256
 dffs:x.dffs<256
 data0:x.data0<256
 data1:x.data1<256
 port0:x.port0<256
 port1:x.port1<256
 port2:x.port2<256
 port3:x.port3<256
 gates:∀ g∈x.gates,GOk g
 outs:∀ o∈x.outs,o<256
 gatesLen:x.gates.length<2 ^ 62
 outsLen:x.outs.length<2 ^ 62
def loN (k:Nat):Nat:=(loL (Int.ofNat k)).toNat
def hiZ (k:Nat):Int:=hiL (Int.ofNat k)
theorem Bs (k:Nat):Int.ofNat (loN k)=loL (Int.ofNat k):=by
 unfold loN
 have:0<=loL (Int.ofNat k):=by
  rcases kinds (k:=Int.ofNat k) (Int.natCast_nonneg k) with h|h|h|h|h|h|h|h|h|h|h|h|h|h|h|h|⟨n,h⟩ <;> rw[h]
  iterate 16 decide
  rw[wS];decide
 exact Int.toNat_of_nonneg this
def fx (k:Nat) (K:Nat×Int->Prop):Prop:=k<256/\K (loN k,hiZ k)
theorem jA {k:Nat}{K:Nat×Int->Prop} (hm:fx k K) {h0:Heap} (hB:HasB vars h0):∃ r,K r/\CallD Tryz.prog NG 63 ⟨[n8 k]⟩ h0 ((fun r=>Value.tuple ⟨[i64 r.1,z64 r.2]⟩) r) h0:=by
 refine⟨_,hm.2,?_⟩
 have:=Ag (k:=Int.ofNat k) (Int.natCast_nonneg k) (by have:=hm.1;simp only[Int.ofNat_eq_natCast];omega) (nF hB)
 rw[<- Bs] at this
 exact this
structure Ln where
 node:Nat
 pin:Nat
def bX (x:Ln):Value:=.agg ⟨[i64 x.node,i64 x.pin]⟩
theorem uU (x:Ln):aj (cl (bX x)):=aj.cons (PureV.flat rfl) (aj.cons (PureV.flat rfl) aj.nil)
def NamesOk (c:Circ):Prop:=FnV Tryz.prog NG vars 126 ⟨[aA c]⟩ (i64 0)
def fF (c:Circ) (K:Nat->Prop):Prop:=NamesOk c/\K 0
theorem lD {c:Circ}{K:Nat->Prop} (hm:fF c K) {h0:Heap} (hB:HasB vars h0):∃ r,K r/\CallD Tryz.prog NG 126 ⟨[aA c]⟩ h0 (i64 r) h0:=FnV.walk hm.1 hm.2 hB
def bC (n i:Nat) (ins:List Nat):List Ln:=(ins.zipIdx.filter fun p=>p.1==n).map fun p=>⟨i,p.2⟩
def nj (c:Circ):List (List Ln):=(List.range c.nodes.length).map fun n=>c.nodes.zipIdx.flatMap fun p=>bC n p.2 p.1.ins
def FanOk (c:Circ):Prop:=FnV Tryz.prog NG vars 98 ⟨[aA c]⟩ (ag 1 (ag 2 bX) (nj c))
def ff (c:Circ) (K:List (List Ln)->Prop):Prop:=FanOk c/\K (nj c)
theorem lf {c:Circ}{K:List (List Ln)->Prop} (hm:ff c K) {h0:Heap} (hB:HasB vars h0):∃ r,K r/\CallD Tryz.prog NG 98 ⟨[aA c]⟩ h0 ((ag 1 (ag 2 bX)) r) h0:=FnV.walk hm.1 hm.2 hB
def AY (s:ByteArray):Prop:=FnV Tryz.prog NG vars 140 ⟨[.string s]⟩ (.bool true)
def iv (s:ByteArray) (K:Bool->Prop):Prop:=AY s/\K true
theorem kL {s:ByteArray}{K:Bool->Prop} (hm:iv s K) {h0:Heap} (hB:HasB vars h0):∃ r,K r/\CallD Tryz.prog NG 140 ⟨[Value.string s]⟩ h0 (Value.bool r) h0:=FnV.walk (enc:=Value.bool) hm.1 hm.2 hB
theorem fw {f:FuncId}{fn:Func}{c:Code} (hf:Tryz.prog.funcs[f]?=some fn) {vs:Array Value}{h:Heap} (hB:HasB vars h) {R:Type}{enc:R->Value} (hp:∀ r,PureV (enc r)) {K:R->Prop}
  (hk:Own vars h [] h->CodeS Tryz.prog NG c (cW fn.ntmps vs) h fun x e1 h1=>match x with
   |.exit _=>False
   |_=>kp Tryz.prog e1 h1 fn.results.toList fun vs=>∃ r,K r/\Ext h h1/\∀ h2,Frozen h.size h1 h2->VLe h2 (rT vs) (enc r))
  (hb:fn.body=some c:=by exact rfl) (hs:Nat.ble vs.size fn.ntmps=true:=by exact rfl):∃ r,K r/\CallD Tryz.prog NG f vs h (enc r) h :=
 fnW hM hf hb (hP _ _ rfl hf) (Nat.le_of_ble_eq_true hs) hB hp hk
theorem fg {f:FuncId}{fn:Func}{c:Code} (hf:Tryz.prog.funcs[f]?=some fn) {vs:Array Value}{h:Heap}{Q:Value->Heap->Prop}
  (hk:CodeS Tryz.prog NG c (cW fn.ntmps vs) h fun x e1 h1=>match x with
   |.exit _=>False
   |_=>kp Tryz.prog e1 h1 fn.results.toList fun vs=>Q (rT vs) h1)
  (hb:fn.body=some c:=by exact rfl) (hs:Nat.ble vs.size fn.ntmps=true:=by exact rfl):∃ v h',CallD Tryz.prog NG f vs h v h'/\Q v h' :=
 fnG hM hf hb (hP _ _ rfl hf) (Nat.le_of_ble_eq_true hs) hk
set_option maxHeartbeats 8000000
def hZ (p0:(List Nat)) (p1:Nat) (K:Int->Prop):Prop :=
 an (α:=Unit) (fun k1=>av (S:=Nat) (fun v2 nx3=>((ltN v2 p0.length)=true->∃ x4,p0[v2]?=some x4/\((eqN p1 x4)=true->K (Int.ofNat v2))/\((eqN p1 x4)=false->v2+1<2 ^ 63/\nx3 (v2+1)))/\((ltN v2 p0.length)=false->k1 ())) 0) (fun _=>K (Int.negSucc 0))
theorem rB {p0:(List Nat)}{p1:Nat}{K:Int->Prop} (hm:hZ p0 p1 K) {h0:Heap} (hB:HasB vars h0):∃ r,K r/\CallD Tryz.prog NG 145 ⟨[(ag 1 n8) p0,n8 p1]⟩ h0 (z64 r) h0:=by
 unfold hZ at hm
 refine fw Tryz.func145 hB (enc:=z64) (fun r=>PureV.flat rfl) fun O=>?_;conv=>whnf
 apply Cs;conv=>whnf
 apply Cs;refine gH ?_
 refine jn hm 19 [] (fun s=>s) (fun _ h=>Own vars h0 [] h) (fun _=>[]) (fun hm=>?_) ?_
 ·refine gX ?_
  refine lw 19 [0,1,7] (σ:=Nat) (fun s=>s) (fun v2 h=>Own vars h0 [] h) (fun v2=>[(8,(i64 v2))]) 0 hm O ?_
  clear hm;rintro v2 nx3 base h hm O
  refine gX ?_
  refine br hm (fun hm=>?_) fun hm=>?_
  ·refine gX ?_
   refine atF hm fun x4 hx4 hm=>?_;refine gX ?_
   refine br hm (fun hm=>?_) fun hm=>?_
   ·refine gX ?_
    exact fe hm O
   ·refine gX ?_
    refine aF hm fun hm=>?_;refine gH ?_
    exact jx (v2+1) hm O
  ·refine gX ?_
   exact jx () hm O
 ·clear hm;rintro _ base h hm O
  refine gX ?_
  exact fe hm O
def cE (p0:(List Nat)) (p1:Nat) (K:Bool->Prop):Prop :=
 hZ p0 p1 (fun r1=>K (!ltI r1 (Int.ofNat 0)))
theorem iR {p0:(List Nat)}{p1:Nat}{K:Bool->Prop} (hm:cE p0 p1 K) {h0:Heap} (hB:HasB vars h0):∃ r,K r/\CallD Tryz.prog NG 132 ⟨[(ag 1 n8) p0,n8 p1]⟩ h0 (Value.bool r) h0:=by
 unfold cE at hm
 refine fw Tryz.func132 hB (enc:=Value.bool) (fun r=>PureV.flat rfl) fun O=>?_;conv=>whnf
 refine gX ?_
 refine ca (rB hm O.has) fun r1 hm=>?_;refine gX ?_
 exact fe hm O
def de (p0:Nat) (K:Nat->Prop):Prop :=
 ((ltN 3 p0)=true->K 2)/\((ltN 3 p0)=false->K p0)
theorem jG {p0:Nat}{K:Nat->Prop} (hm:de p0 K) {h0:Heap} (hB:HasB vars h0):∃ r,K r/\CallD Tryz.prog NG 105 ⟨[n8 p0]⟩ h0 (n8 r) h0:=by
 unfold de at hm
 refine fw Tryz.func105 hB (enc:=n8) (fun r=>PureV.flat rfl) fun O=>?_;conv=>whnf
 refine gX ?_
 refine br hm (fun hm=>?_) fun hm=>?_
 ·refine gX ?_
  exact fe hm O
 ·refine gX ?_
  exact fe hm O
def fR (p0:(List Nat)) (K:Int->Prop):Prop :=
 an (α:=Unit) (fun k1=>av (S:=Nat) (fun v2 nx3=>((ltN v2 p0.length)=true->∃ x4,p0[v2]?=some x4/\de x4 (fun r5=>((eqN r5 2)=true->K (Int.ofNat v2))/\((eqN r5 2)=false->v2+1<2 ^ 63/\nx3 (v2+1))))/\((ltN v2 p0.length)=false->k1 ())) 0) (fun _=>K (Int.negSucc 0))
theorem ou {p0:(List Nat)}{K:Int->Prop} (hm:fR p0 K) {h0:Heap} (hB:HasB vars h0):∃ r,K r/\CallD Tryz.prog NG 101 ⟨[(ag 1 n8) p0,(.func (.func 104) ⟨[]⟩ ⟨[]⟩)]⟩ h0 (z64 r) h0:=by
 unfold fR at hm
 refine fw Tryz.func101 hB (enc:=z64) (fun r=>PureV.flat rfl) fun O=>?_;conv=>whnf
 apply Cs;conv=>whnf
 apply Cs;refine gH ?_
 refine jn hm 19 [] (fun s=>s) (fun _ h=>Own vars h0 [] h) (fun _=>[]) (fun hm=>?_) ?_
 ·refine gX ?_
  refine lw 19 [0,1,7] (σ:=Nat) (fun s=>s) (fun v2 h=>Own vars h0 [] h) (fun v2=>[(8,(i64 v2))]) 0 hm O ?_
  clear hm;rintro v2 nx3 base h hm O
  refine gX ?_
  refine br hm (fun hm=>?_) fun hm=>?_
  ·refine gX ?_
   refine atF hm fun x4 hx4 hm=>?_;refine gH ?_
   refine fg Tryz.func104 ?_;refine gX ?_
   refine ca (jG hm O.has) fun r5 hm=>?_;refine gX ?_
   refine br hm (fun hm=>?_) fun hm=>?_
   ·refine gX ?_
    exact fe hm O
   ·refine gX ?_
    refine aF hm fun hm=>?_;refine gH ?_
    exact jx (v2+1) hm O
  ·refine gX ?_
   exact jx () hm O
 ·clear hm;rintro _ base h hm O
  refine gX ?_
  exact fe hm O
def eI (p0:(List Nat)) (K:Bool->Prop):Prop :=
 fR p0 (fun r1=>K (!ltI r1 (Int.ofNat 0)))
theorem po {p0:(List Nat)}{K:Bool->Prop} (hm:eI p0 K) {h0:Heap} (hB:HasB vars h0):∃ r,K r/\CallD Tryz.prog NG 61 ⟨[(ag 1 n8) p0,(.func (.func 104) ⟨[]⟩ ⟨[]⟩)]⟩ h0 (Value.bool r) h0:=by
 unfold eI at hm
 refine fw Tryz.func61 hB (enc:=Value.bool) (fun r=>PureV.flat rfl) fun O=>?_;conv=>whnf
 refine gX ?_
 refine ca (ou hm O.has) fun r1 hm=>?_;refine gX ?_
 exact fe hm O
def fI (p0:(List Nat)) (K:Int->Prop):Prop :=
 an (α:=Unit) (fun k1=>av (S:=Nat) (fun v2 nx3=>((ltN v2 p0.length)=true->∃ x4,p0[v2]?=some x4/\((neN x4 3)=true->K (Int.ofNat v2))/\((neN x4 3)=false->v2+1<2 ^ 63/\nx3 (v2+1)))/\((ltN v2 p0.length)=false->k1 ())) 0) (fun _=>K (Int.negSucc 0))
theorem qE {p0:(List Nat)}{K:Int->Prop} (hm:fI p0 K) {h0:Heap} (hB:HasB vars h0):∃ r,K r/\CallD Tryz.prog NG 101 ⟨[(ag 1 n8) p0,(.func (.func 106) ⟨[]⟩ ⟨[]⟩)]⟩ h0 (z64 r) h0:=by
 unfold fI at hm
 refine fw Tryz.func101 hB (enc:=z64) (fun r=>PureV.flat rfl) fun O=>?_;conv=>whnf
 apply Cs;conv=>whnf
 apply Cs;refine gH ?_
 refine jn hm 19 [] (fun s=>s) (fun _ h=>Own vars h0 [] h) (fun _=>[]) (fun hm=>?_) ?_
 ·refine gX ?_
  refine lw 19 [0,1,7] (σ:=Nat) (fun s=>s) (fun v2 h=>Own vars h0 [] h) (fun v2=>[(8,(i64 v2))]) 0 hm O ?_
  clear hm;rintro v2 nx3 base h hm O
  refine gX ?_
  refine br hm (fun hm=>?_) fun hm=>?_
  ·refine gX ?_
   refine atF hm fun x4 hx4 hm=>?_;refine gH ?_
   refine fg Tryz.func106 ?_;refine gX ?_
   refine br hm (fun hm=>?_) fun hm=>?_
   ·refine gX ?_
    exact fe hm O
   ·refine gX ?_
    refine aF hm fun hm=>?_;refine gH ?_
    exact jx (v2+1) hm O
  ·refine gX ?_
   exact jx () hm O
 ·clear hm;rintro _ base h hm O
  refine gX ?_
  exact fe hm O
def da (p0:Nat) (K:Bool->Prop):Prop :=
 K (!ltN 1 p0)
theorem jq {p0:Nat}{K:Bool->Prop} (hm:da p0 K) {h0:Heap} (hB:HasB vars h0):∃ r,K r/\CallD Tryz.prog NG 102 ⟨[n8 p0]⟩ h0 (Value.bool r) h0:=by
 unfold da at hm
 refine fw Tryz.func102 hB (enc:=Value.bool) (fun r=>PureV.flat rfl) fun O=>?_;conv=>whnf
 refine gX ?_
 exact fe hm O
def cP (p0:Nat) (K:Nat->Prop):Prop :=
 da p0 (fun r1=>(r1=true->p0<=1/\1<256/\K (1-p0))/\(r1=false->K 2))
theorem fQ {p0:Nat}{K:Nat->Prop} (hm:cP p0 K) {h0:Heap} (hB:HasB vars h0):∃ r,K r/\CallD Tryz.prog NG 65 ⟨[n8 p0]⟩ h0 (n8 r) h0:=by
 unfold cP at hm
 refine fw Tryz.func65 hB (enc:=n8) (fun r=>PureV.flat rfl) fun O=>?_;conv=>whnf
 refine gX ?_
 refine ca (jq hm O.has) fun r1 hm=>?_;refine gX ?_
 refine br hm (fun hm=>?_) fun hm=>?_
 ·refine gX ?_
  refine Cg hm fun hm=>?_;refine gX ?_
  exact fe hm O
 ·refine gX ?_
  exact fe hm O
def bA (p0:Nat) (K:Nat->Prop):Prop :=
 K (min p0 2)
theorem cF {p0:Nat}{K:Nat->Prop} (hm:bA p0 K) {h0:Heap} (hB:HasB vars h0):∃ r,K r/\CallD Tryz.prog NG 64 ⟨[n8 p0]⟩ h0 (n8 r) h0:=by
 unfold bA at hm
 refine fw Tryz.func64 hB (enc:=n8) (fun r=>PureV.flat rfl) fun O=>?_;conv=>whnf
 refine gX ?_
 refine⟨_,AN (a:=p0) (b:=2) rfl rfl,?_⟩;refine gX ?_
 exact fe hm O
def cm (p0:(List Nat)) (p1:Nat) (p2:Nat) (K:Nat->Prop):Prop :=
 an (α:=Nat) (fun k2=>av (S:=(Nat×Nat)) (fun (v3,v4) nx5=>((ltN v4 p0.length)=true->an (α:=Nat) (fun k7=>∃ x8,p0[v4]?=some x8/\((eqN x8 p1)=true->K p1)/\((eqN x8 p1)=false->((neN x8 p2)=true->k7 2)/\((neN x8 p2)=false->k7 v3))) (fun v6=>v4+1<2 ^ 63/\nx5 (v6,(v4+1))))/\((ltN v4 p0.length)=false->k2 v3)) (p2,0)) (fun v1=>K v1)
theorem iz {p0:(List Nat)}{p1:Nat}{p2:Nat}{K:Nat->Prop} (hm:cm p0 p1 p2 K) {h0:Heap} (hB:HasB vars h0):∃ r,K r/\CallD Tryz.prog NG 103 ⟨[(ag 1 n8) p0,n8 p1,n8 p2]⟩ h0 (n8 r) h0:=by
 unfold cm at hm
 refine fw Tryz.func103 hB (enc:=n8) (fun r=>PureV.flat rfl) fun O=>?_;conv=>whnf
 apply Cs;conv=>whnf
 apply Cs;refine gH ?_
 apply Cs;conv=>whnf
 apply Cs;refine gH ?_
 refine jn hm 28 [] (fun s=>s) (fun v1 h=>Own vars h0 [] h) (fun v1=>[(7,(n8 v1))]) (fun hm=>?_) ?_
 ·refine gX ?_
  refine lw 28 [1,2,11,12] (σ:=(Nat×Nat)) (fun s=>s) (fun (v3,v4) h=>Own vars h0 [] h) (fun (v3,v4)=>[(7,(n8 v3)),(13,(i64 v4))]) (p2,0) hm O ?_
  clear hm;rintro⟨v3,v4⟩ nx5 base h hm O
  refine gX ?_
  refine br hm (fun hm=>?_) fun hm=>?_
  ·apply Cs;conv=>whnf
   refine jn hm 28 [1,2,11,12,13] (fun s=>s) (fun v6 h=>Own vars h0 [] h) (fun v6=>[(7,(n8 v6))]) (fun hm=>?_) ?_
   ·refine gX ?_
    refine atF hm fun x8 hx8 hm=>?_;refine gX ?_
    refine br hm (fun hm=>?_) fun hm=>?_
    ·refine gX ?_
     exact fe hm O
    ·refine gX ?_
     refine br hm (fun hm=>?_) fun hm=>?_
     ·refine gX ?_
      exact jx 2 hm O
     ·refine gX ?_
      exact jx v3 hm O
   ·clear hm;rintro v6 base h hm O
    refine gX ?_
    refine aF hm fun hm=>?_;refine gH ?_
    exact jx (v6,(v4+1)) hm O
  ·refine gX ?_
   exact jx v3 hm O
 ·clear hm;rintro v1 base h hm O
  refine gX ?_
  exact fe hm O
def gV (p0:(List Nat)) (K:Nat->Prop):Prop :=
 cm p0 0 1 (fun r1=>K r1)
theorem kM {p0:(List Nat)}{K:Nat->Prop} (hm:gV p0 K) {h0:Heap} (hB:HasB vars h0):∃ r,K r/\CallD Tryz.prog NG 66 ⟨[(ag 1 n8) p0]⟩ h0 (n8 r) h0:=by
 unfold gV at hm
 refine fw Tryz.func66 hB (enc:=n8) (fun r=>PureV.flat rfl) fun O=>?_;conv=>whnf
 refine gX ?_
 refine ca (iz hm O.has) fun r1 hm=>?_;refine gX ?_
 exact fe hm O
def iU (p0:(List Nat)) (K:Nat->Prop):Prop :=
 cm p0 1 0 (fun r1=>K r1)
theorem lS {p0:(List Nat)}{K:Nat->Prop} (hm:iU p0 K) {h0:Heap} (hB:HasB vars h0):∃ r,K r/\CallD Tryz.prog NG 67 ⟨[(ag 1 n8) p0]⟩ h0 (n8 r) h0:=by
 unfold iU at hm
 refine fw Tryz.func67 hB (enc:=n8) (fun r=>PureV.flat rfl) fun O=>?_;conv=>whnf
 refine gX ?_
 refine ca (iz hm O.has) fun r1 hm=>?_;refine gX ?_
 exact fe hm O
def dX (p0:(List Nat)) (K:Nat->Prop):Prop :=
 an (α:=Nat) (fun k2=>av (S:=(Nat×Nat)) (fun (v3,v4) nx5=>((ltN v4 p0.length)=true->∃ x6,p0[v4]?=some x6/\da x6 (fun r7=>((!r7)=true->K 2)/\((!r7)=false->v3<256/\x6<256/\v4+1<2 ^ 63/\nx5 ((v3 ^^^ x6),(v4+1)))))/\((ltN v4 p0.length)=false->k2 v3)) (0,0)) (fun v1=>K v1)
theorem kq {p0:(List Nat)}{K:Nat->Prop} (hm:dX p0 K) {h0:Heap} (hB:HasB vars h0):∃ r,K r/\CallD Tryz.prog NG 68 ⟨[(ag 1 n8) p0]⟩ h0 (n8 r) h0:=by
 unfold dX at hm
 refine fw Tryz.func68 hB (enc:=n8) (fun r=>PureV.flat rfl) fun O=>?_;conv=>whnf
 apply Cs;conv=>whnf
 apply Cs;refine gH ?_
 apply Cs;conv=>whnf
 apply Cs;refine gH ?_
 refine jn hm 20 [] (fun s=>s) (fun v1 h=>Own vars h0 [] h) (fun v1=>[(3,(n8 v1))]) (fun hm=>?_) ?_
 ·refine gX ?_
  refine lw 20 [6,7] (σ:=(Nat×Nat)) (fun s=>s) (fun (v3,v4) h=>Own vars h0 [] h) (fun (v3,v4)=>[(3,(n8 v3)),(8,(i64 v4))]) (0,0) hm O ?_
  clear hm;rintro⟨v3,v4⟩ nx5 base h hm O
  refine gX ?_
  refine br hm (fun hm=>?_) fun hm=>?_
  ·refine gX ?_
   refine atF hm fun x6 hx6 hm=>?_;refine gX ?_
   refine ca (jq hm O.has) fun r7 hm=>?_;refine gX ?_
   refine br hm (fun hm=>?_) fun hm=>?_
   ·refine gX ?_
    exact fe hm O
   ·refine gX ?_
    refine⟨_,BL (a:=v3) (b:=x6) rfl rfl hm.1 hm.2.1,?_⟩;refine gX ?_
    replace hm:=hm.2.2
    refine aF hm fun hm=>?_;refine gH ?_
    exact jx ((v3 ^^^ x6),(v4+1)) hm O
  ·refine gX ?_
   exact jx v3 hm O
 ·clear hm;rintro v1 base h hm O
  refine gX ?_
  exact fe hm O
def fU (p0:Nat) (p1:Nat) (p2:Nat) (K:Nat->Prop):Prop :=
 ((eqN p0 0)=true->bA p1 (fun r1=>K r1))/\((eqN p0 0)=false->((eqN p0 1)=true->bA p2 (fun r2=>K r2))/\((eqN p0 1)=false->((eqN p1 p2)=true->bA p1 (fun r3=>K r3))/\((eqN p1 p2)=false->K 2)))
theorem ri {p0:Nat}{p1:Nat}{p2:Nat}{K:Nat->Prop} (hm:fU p0 p1 p2 K) {h0:Heap} (hB:HasB vars h0):∃ r,K r/\CallD Tryz.prog NG 69 ⟨[n8 p0,n8 p1,n8 p2]⟩ h0 (n8 r) h0:=by
 unfold fU at hm
 refine fw Tryz.func69 hB (enc:=n8) (fun r=>PureV.flat rfl) fun O=>?_;conv=>whnf
 refine gX ?_
 refine br hm (fun hm=>?_) fun hm=>?_
 ·refine gX ?_
  refine ca (cF hm O.has) fun r1 hm=>?_;refine gX ?_
  exact fe hm O
 ·refine gX ?_
  refine br hm (fun hm=>?_) fun hm=>?_
  ·refine gX ?_
   refine ca (cF hm O.has) fun r2 hm=>?_;refine gX ?_
   exact fe hm O
  ·refine gX ?_
   refine br hm (fun hm=>?_) fun hm=>?_
   ·refine gX ?_
    refine ca (cF hm O.has) fun r3 hm=>?_;refine gX ?_
    exact fe hm O
   ·refine gX ?_
    exact fe hm O
def fy (p0:Nat) (p1:Nat) (K:Nat->Prop):Prop :=
 ((eqN p0 0)=true->K 3)/\((eqN p0 0)=false->((eqN p0 1)=true->bA p1 (fun r1=>K r1))/\((eqN p0 1)=false->K 2))
theorem qB {p0:Nat}{p1:Nat}{K:Nat->Prop} (hm:fy p0 p1 K) {h0:Heap} (hB:HasB vars h0):∃ r,K r/\CallD Tryz.prog NG 70 ⟨[n8 p0,n8 p1]⟩ h0 (n8 r) h0:=by
 unfold fy at hm
 refine fw Tryz.func70 hB (enc:=n8) (fun r=>PureV.flat rfl) fun O=>?_;conv=>whnf
 refine gX ?_
 refine br hm (fun hm=>?_) fun hm=>?_
 ·refine gX ?_
  exact fe hm O
 ·refine gX ?_
  refine br hm (fun hm=>?_) fun hm=>?_
  ·refine gX ?_
   refine ca (cF hm O.has) fun r1 hm=>?_;refine gX ?_
   exact fe hm O
  ·refine gX ?_
   exact fe hm O
def dH (p0:(List Nat)) (K:Bool->Prop):Prop :=
 cE p0 0 (fun r1=>(r1=true->cE p0 1 (fun r2=>K r2))/\(r1=false->K false))
theorem lE {p0:(List Nat)}{K:Bool->Prop} (hm:dH p0 K) {h0:Heap} (hB:HasB vars h0):∃ r,K r/\CallD Tryz.prog NG 107 ⟨[(ag 1 n8) p0]⟩ h0 (Value.bool r) h0:=by
 unfold dH at hm
 refine fw Tryz.func107 hB (enc:=Value.bool) (fun r=>PureV.flat rfl) fun O=>?_;conv=>whnf
 refine gX ?_
 refine ca (iR hm O.has) fun r1 hm=>?_;refine gH ?_
 refine br hm (fun hm=>?_) fun hm=>?_
 ·refine gX ?_
  refine ca (iR hm O.has) fun r2 hm=>?_;refine gX ?_
  exact fe hm O
 ·refine gX ?_
  exact fe hm O
def fS (p0:(List Nat)) (K:Nat->Prop):Prop :=
 fI p0 (fun r1=>((ltI r1 (Int.ofNat 0))=true->K 3)/\((ltI r1 (Int.ofNat 0))=false->an (α:=Bool) (fun k3=>dH p0 (fun r4=>(r4=true->k3 true)/\(r4=false->eI p0 (fun r5=>k3 r5)))) (fun v2=>(v2=true->K 2)/\(v2=false->∃ j7:Nat,r1=Int.ofNat j7/\∃ x6,p0[j7]?=some x6/\K x6))))
theorem qJ {p0:(List Nat)}{K:Nat->Prop} (hm:fS p0 K) {h0:Heap} (hB:HasB vars h0):∃ r,K r/\CallD Tryz.prog NG 71 ⟨[(ag 1 n8) p0]⟩ h0 (n8 r) h0:=by
 unfold fS at hm
 refine fw Tryz.func71 hB (enc:=n8) (fun r=>PureV.flat rfl) fun O=>?_;conv=>whnf
 refine gX ?_
 refine ca (qE hm O.has) fun r1 hm=>?_;refine gX ?_
 refine br hm (fun hm=>?_) fun hm=>?_
 ·refine gX ?_
  exact fe hm O
 ·refine jn hm 24 [0,5] (fun s=>s) (fun v2 h=>Own vars h0 [] h) (fun v2=>[(12,(.bool v2))]) (fun hm=>?_) ?_
  ·refine gX ?_
   refine ca (lE hm O.has) fun r4 hm=>?_;refine gH ?_
   refine br hm (fun hm=>?_) fun hm=>?_
   ·refine gX ?_
    exact jx true hm O
   ·refine gX ?_
    refine ca (po hm O.has) fun r5 hm=>?_;refine gH ?_
    exact jx r5 hm O
  ·clear hm;rintro v2 base h hm O
   refine gX ?_
   refine br hm (fun hm=>?_) fun hm=>?_
   ·refine gX ?_
    exact fe hm O
   ·refine gX ?_
    obtain⟨j7,hz,x6,hx6,hm⟩:=hm
    refine sj (s:=1) (enc:=n8) (j:=j7) rfl rfl rfl (congrArg (Value.int .i64) hz) hx6 ?_;refine gX ?_
    exact fe hm O
def aS (p0:Nat) (p1:(List Nat)) (K:Nat->Prop):Prop :=
 fx p0 (fun r1=>an (α:=Bool) (fun k3=>((ltN p1.length r1.1)=true->k3 true)/\((ltN p1.length r1.1)=false->k3 (ltI r1.2 (Int.ofNat p1.length)))) (fun v2=>(v2=true->K 2)/\(v2=false->((eqN p0 1)=true->K 0)/\((eqN p0 1)=false->((eqN p0 2)=true->K 1)/\((eqN p0 2)=false->((eqN p0 3)=true->∃ x4,p1[0]?=some x4/\bA x4 (fun r5=>K r5))/\((eqN p0 3)=false->((eqN p0 4)=true->∃ x6,p1[0]?=some x6/\cP x6 (fun r7=>K r7))/\((eqN p0 4)=false->((eqN p0 5)=true->gV p1 (fun r8=>K r8))/\((eqN p0 5)=false->((eqN p0 6)=true->gV p1 (fun r9=>cP r9 (fun r10=>K r10)))/\((eqN p0 6)=false->((eqN p0 7)=true->iU p1 (fun r11=>K r11))/\((eqN p0 7)=false->((eqN p0 8)=true->iU p1 (fun r12=>cP r12 (fun r13=>K r13)))/\((eqN p0 8)=false->((eqN p0 9)=true->dX p1 (fun r14=>K r14))/\((eqN p0 9)=false->((eqN p0 10)=true->dX p1 (fun r15=>cP r15 (fun r16=>K r16)))/\((eqN p0 10)=false->((eqN p0 11)=true->∃ x17,p1[0]?=some x17/\∃ x18,p1[1]?=some x18/\∃ x19,p1[2]?=some x19/\fU x17 x18 x19 (fun r20=>K r20))/\((eqN p0 11)=false->((eqN p0 12)=true->∃ x21,p1[0]?=some x21/\∃ x22,p1[1]?=some x22/\fy x21 x22 (fun r23=>K r23))/\((eqN p0 12)=false->((eqN p0 13)=true->fS p1 (fun r24=>K r24))/\((eqN p0 13)=false->K 2))))))))))))))))
theorem cH {p0:Nat}{p1:(List Nat)}{K:Nat->Prop} (hm:aS p0 p1 K) {h0:Heap} (hB:HasB vars h0):∃ r,K r/\CallD Tryz.prog NG 38 ⟨[n8 p0,(ag 1 n8) p1]⟩ h0 (n8 r) h0:=by
 unfold aS at hm
 refine fw Tryz.func38 hB (enc:=n8) (fun r=>PureV.flat rfl) fun O=>?_;conv=>whnf
 refine gX ?_
 refine ca (jA hm O.has) fun r1 hm=>?_;refine gH ?_
 refine jn hm 91 [0,1] (fun s=>s) (fun v2 h=>Own vars h0 [] h) (fun v2=>[(21,(.bool v2))]) (fun hm=>?_) ?_
 ·refine gX ?_
  refine br hm (fun hm=>?_) fun hm=>?_
  ·refine gX ?_
   exact jx true hm O
  ·refine gX ?_
   exact jx (ltI r1.2 (Int.ofNat p1.length)) hm O
 ·clear hm;rintro v2 base h hm O
  refine gX ?_
  refine br hm (fun hm=>?_) fun hm=>?_
  ·refine gX ?_
   exact fe hm O
  ·refine gX ?_
   refine br hm (fun hm=>?_) fun hm=>?_
   ·refine gX ?_
    exact fe hm O
   ·refine gX ?_
    refine br hm (fun hm=>?_) fun hm=>?_
    ·refine gX ?_
     exact fe hm O
    ·refine gX ?_
     refine br hm (fun hm=>?_) fun hm=>?_
     ·refine gX ?_
      refine atF hm fun x4 hx4 hm=>?_;refine gH ?_
      refine ca (cF hm O.has) fun r5 hm=>?_;refine gX ?_
      exact fe hm O
     ·refine gX ?_
      refine br hm (fun hm=>?_) fun hm=>?_
      ·refine gX ?_
       refine atF hm fun x6 hx6 hm=>?_;refine gH ?_
       refine ca (fQ hm O.has) fun r7 hm=>?_;refine gX ?_
       exact fe hm O
      ·refine gX ?_
       refine br hm (fun hm=>?_) fun hm=>?_
       ·refine gX ?_
        refine ca (kM hm O.has) fun r8 hm=>?_;refine gX ?_
        exact fe hm O
       ·refine gX ?_
        refine br hm (fun hm=>?_) fun hm=>?_
        ·refine gX ?_
         refine ca (kM hm O.has) fun r9 hm=>?_;refine gH ?_
         refine ca (fQ hm O.has) fun r10 hm=>?_;refine gX ?_
         exact fe hm O
        ·refine gX ?_
         refine br hm (fun hm=>?_) fun hm=>?_
         ·refine gX ?_
          refine ca (lS hm O.has) fun r11 hm=>?_;refine gX ?_
          exact fe hm O
         ·refine gX ?_
          refine br hm (fun hm=>?_) fun hm=>?_
          ·refine gX ?_
           refine ca (lS hm O.has) fun r12 hm=>?_;refine gH ?_
           refine ca (fQ hm O.has) fun r13 hm=>?_;refine gX ?_
           exact fe hm O
          ·refine gX ?_
           refine br hm (fun hm=>?_) fun hm=>?_
           ·refine gX ?_
            refine ca (kq hm O.has) fun r14 hm=>?_;refine gX ?_
            exact fe hm O
           ·refine gX ?_
            refine br hm (fun hm=>?_) fun hm=>?_
            ·refine gX ?_
             refine ca (kq hm O.has) fun r15 hm=>?_;refine gH ?_
             refine ca (fQ hm O.has) fun r16 hm=>?_;refine gX ?_
             exact fe hm O
            ·refine gX ?_
             refine br hm (fun hm=>?_) fun hm=>?_
             ·refine gX ?_
              refine atF hm fun x17 hx17 hm=>?_;refine gH ?_
              refine atF hm fun x18 hx18 hm=>?_;refine gH ?_
              refine atF hm fun x19 hx19 hm=>?_;refine gH ?_
              refine ca (ri hm O.has) fun r20 hm=>?_;refine gH ?_
              refine⟨.inl (Ext.refl _),?_⟩;refine gH ?_
              refine gX ?_
              exact fe hm O
             ·refine gX ?_
              refine br hm (fun hm=>?_) fun hm=>?_
              ·refine gX ?_
               refine atF hm fun x21 hx21 hm=>?_;refine gH ?_
               refine atF hm fun x22 hx22 hm=>?_;refine gH ?_
               refine ca (qB hm O.has) fun r23 hm=>?_;refine gH ?_
               refine⟨.inl (Ext.refl _),?_⟩;refine gH ?_
               refine gX ?_
               exact fe hm O
              ·refine gX ?_
               refine br hm (fun hm=>?_) fun hm=>?_
               ·refine gX ?_
                refine ca (qJ hm O.has) fun r24 hm=>?_;refine gX ?_
                exact fe hm O
               ·refine gX ?_
                exact fe hm O
def gZ (p0:(List Nat)) (p1:Nat) (K:Int->Prop):Prop :=
 an (α:=Unit) (fun k1=>av (S:=Nat) (fun v2 nx3=>((ltN v2 p0.length)=true->∃ x4,p0[v2]?=some x4/\((eqN p1 x4)=true->K (Int.ofNat v2))/\((eqN p1 x4)=false->v2+1<2 ^ 63/\nx3 (v2+1)))/\((ltN v2 p0.length)=false->k1 ())) 0) (fun _=>K (Int.negSucc 0))
theorem qF {p0:(List Nat)}{p1:Nat}{K:Int->Prop} (hm:gZ p0 p1 K) {h0:Heap} (hB:HasB vars h0):∃ r,K r/\CallD Tryz.prog NG 118 ⟨[(ag 1 n8) p0,n8 p1]⟩ h0 (z64 r) h0:=by
 unfold gZ at hm
 refine fw Tryz.func118 hB (enc:=z64) (fun r=>PureV.flat rfl) fun O=>?_;conv=>whnf
 apply Cs;conv=>whnf
 apply Cs;refine gH ?_
 refine jn hm 19 [] (fun s=>s) (fun _ h=>Own vars h0 [] h) (fun _=>[]) (fun hm=>?_) ?_
 ·refine gX ?_
  refine lw 19 [0,1,7] (σ:=Nat) (fun s=>s) (fun v2 h=>Own vars h0 [] h) (fun v2=>[(8,(i64 v2))]) 0 hm O ?_
  clear hm;rintro v2 nx3 base h hm O
  refine gX ?_
  refine br hm (fun hm=>?_) fun hm=>?_
  ·refine gX ?_
   refine atF hm fun x4 hx4 hm=>?_;refine gX ?_
   refine br hm (fun hm=>?_) fun hm=>?_
   ·refine gX ?_
    exact fe hm O
   ·refine gX ?_
    refine aF hm fun hm=>?_;refine gH ?_
    exact jx (v2+1) hm O
  ·refine gX ?_
   exact jx () hm O
 ·clear hm;rintro _ base h hm O
  refine gX ?_
  exact fe hm O
def dr (p0:(List Nat)) (p1:Nat) (K:Bool->Prop):Prop :=
 gZ p0 p1 (fun r1=>K (!ltI r1 (Int.ofNat 0)))
theorem np {p0:(List Nat)}{p1:Nat}{K:Bool->Prop} (hm:dr p0 p1 K) {h0:Heap} (hB:HasB vars h0):∃ r,K r/\CallD Tryz.prog NG 80 ⟨[(ag 1 n8) p0,n8 p1]⟩ h0 (Value.bool r) h0:=by
 unfold dr at hm
 refine fw Tryz.func80 hB (enc:=Value.bool) (fun r=>PureV.flat rfl) fun O=>?_;conv=>whnf
 refine gX ?_
 refine ca (qF hm O.has) fun r1 hm=>?_;refine gX ?_
 exact fe hm O
def fP (p0:(List Nat)) (c:Circ) (K:Int->Prop):Prop :=
 an (α:=Unit) (fun k1=>av (S:=Nat) (fun v2 nx3=>((ltN v2 p0.length)=true->∃ x4,p0[v2]?=some x4/\((ltN x4 0)=true->K (Int.ofNat v2))/\((ltN x4 0)=false->((!ltN x4 c.nodes.length)=true->K (Int.ofNat v2))/\((!ltN x4 c.nodes.length)=false->v2+1<2 ^ 63/\nx3 (v2+1))))/\((ltN v2 p0.length)=false->k1 ())) 0) (fun _=>K (Int.negSucc 0))
theorem nR {p0:(List Nat)}{c:Circ}{K:Int->Prop} (hm:fP p0 c K) {h0:Heap} (hB:HasB vars h0):∃ r,K r/\CallD Tryz.prog NG 142 ⟨[(ag 1 i64) p0,(.func (.func 143) ⟨[]⟩ ⟨[(FP (aA c))]⟩)]⟩ h0 (z64 r) h0:=by
 unfold fP at hm
 refine fw Tryz.func142 hB (enc:=z64) (fun r=>PureV.flat rfl) fun O=>?_;conv=>whnf
 apply Cs;conv=>whnf
 apply Cs;refine gH ?_
 refine jn hm 19 [] (fun s=>s) (fun _ h=>Own vars h0 [] h) (fun _=>[]) (fun hm=>?_) ?_
 ·refine gX ?_
  refine lw 19 [0,1,7] (σ:=Nat) (fun s=>s) (fun v2 h=>Own vars h0 [] h) (fun v2=>[(8,(i64 v2))]) 0 hm O ?_
  clear hm;rintro v2 nx3 base h hm O
  refine gX ?_
  refine br hm (fun hm=>?_) fun hm=>?_
  ·refine gX ?_
   refine atF hm fun x4 hx4 hm=>?_;refine gH ?_
   refine fg Tryz.func143 ?_;refine gX ?_
   refine br hm (fun hm=>?_) fun hm=>?_
   ·refine gX ?_
    refine bt ?_;refine gX ?_
    exact fe hm O
   ·refine gX ?_
    refine br hm (fun hm=>?_) fun hm=>?_
    ·refine gX ?_
     exact fe hm O
    ·refine gX ?_
     refine aF hm fun hm=>?_;refine gH ?_
     exact jx (v2+1) hm O
  ·refine gX ?_
   exact jx () hm O
 ·clear hm;rintro _ base h hm O
  refine gX ?_
  exact fe hm O
def ch (p0:(List Nat)) (c:Circ) (K:Bool->Prop):Prop :=
 fP p0 c (fun r1=>K (!ltI r1 (Int.ofNat 0)))
theorem eU {p0:(List Nat)}{c:Circ}{K:Bool->Prop} (hm:ch p0 c K) {h0:Heap} (hB:HasB vars h0):∃ r,K r/\CallD Tryz.prog NG 128 ⟨[(ag 1 i64) p0,(.func (.func 143) ⟨[]⟩ ⟨[(FP (aA c))]⟩)]⟩ h0 (Value.bool r) h0:=by
 unfold ch at hm
 refine fw Tryz.func128 hB (enc:=Value.bool) (fun r=>PureV.flat rfl) fun O=>?_;conv=>whnf
 refine gX ?_
 refine ca (nR hm O.has) fun r1 hm=>?_;refine gX ?_
 exact fe hm O
def gq (p0:(List Nat)) (c:Circ) (K:Int->Prop):Prop :=
 an (α:=Unit) (fun k1=>av (S:=Nat) (fun v2 nx3=>((ltN v2 p0.length)=true->∃ x4,p0[v2]?=some x4/\∃ x5,c.nodes[x4]?=some x5/\((neN x5.kind 12)=true->K (Int.ofNat v2))/\((neN x5.kind 12)=false->v2+1<2 ^ 63/\nx3 (v2+1)))/\((ltN v2 p0.length)=false->k1 ())) 0) (fun _=>K (Int.negSucc 0))
theorem pA {p0:(List Nat)}{c:Circ}{K:Int->Prop} (hm:gq p0 c K) {h0:Heap} (hB:HasB vars h0):∃ r,K r/\CallD Tryz.prog NG 142 ⟨[(ag 1 i64) p0,(.func (.func 138) ⟨[]⟩ ⟨[(FP (aA c))]⟩)]⟩ h0 (z64 r) h0:=by
 unfold gq at hm
 refine fw Tryz.func142 hB (enc:=z64) (fun r=>PureV.flat rfl) fun O=>?_;conv=>whnf
 apply Cs;conv=>whnf
 apply Cs;refine gH ?_
 refine jn hm 19 [] (fun s=>s) (fun _ h=>Own vars h0 [] h) (fun _=>[]) (fun hm=>?_) ?_
 ·refine gX ?_
  refine lw 19 [0,1,7] (σ:=Nat) (fun s=>s) (fun v2 h=>Own vars h0 [] h) (fun v2=>[(8,(i64 v2))]) 0 hm O ?_
  clear hm;rintro v2 nx3 base h hm O
  refine gX ?_
  refine br hm (fun hm=>?_) fun hm=>?_
  ·refine gX ?_
   refine atF hm fun x4 hx4 hm=>?_;refine gH ?_
   refine fg Tryz.func138 ?_;refine gX ?_
   refine atF hm fun x5 hx5 hm=>?_;refine gX ?_
   refine br hm (fun hm=>?_) fun hm=>?_
   ·refine gX ?_
    exact fe hm O
   ·refine gX ?_
    refine aF hm fun hm=>?_;refine gH ?_
    exact jx (v2+1) hm O
  ·refine gX ?_
   exact jx () hm O
 ·clear hm;rintro _ base h hm O
  refine gX ?_
  exact fe hm O
def fN (p0:(List Nat)) (c:Circ) (K:Bool->Prop):Prop :=
 gq p0 c (fun r1=>K (!ltI r1 (Int.ofNat 0)))
theorem pU {p0:(List Nat)}{c:Circ}{K:Bool->Prop} (hm:fN p0 c K) {h0:Heap} (hB:HasB vars h0):∃ r,K r/\CallD Tryz.prog NG 128 ⟨[(ag 1 i64) p0,(.func (.func 138) ⟨[]⟩ ⟨[(FP (aA c))]⟩)]⟩ h0 (Value.bool r) h0:=by
 unfold fN at hm
 refine fw Tryz.func128 hB (enc:=Value.bool) (fun r=>PureV.flat rfl) fun O=>?_;conv=>whnf
 refine gX ?_
 refine ca (pA hm O.has) fun r1 hm=>?_;refine gX ?_
 exact fe hm O
def bW (p0:Nat) (K:Bool->Prop):Prop :=
 ((!ltN p0 1)=true->K (!ltN 13 p0))/\((!ltN p0 1)=false->K false)
theorem fj {p0:Nat}{K:Bool->Prop} (hm:bW p0 K) {h0:Heap} (hB:HasB vars h0):∃ r,K r/\CallD Tryz.prog NG 37 ⟨[n8 p0]⟩ h0 (Value.bool r) h0:=by
 unfold bW at hm
 refine fw Tryz.func37 hB (enc:=Value.bool) (fun r=>PureV.flat rfl) fun O=>?_;conv=>whnf
 refine gX ?_
 refine br hm (fun hm=>?_) fun hm=>?_
 ·refine gX ?_
  exact fe hm O
 ·refine gX ?_
  exact fe hm O
def cK (p0:Circ) (p1:Node) (K:Bool->Prop):Prop :=
 ((neN p1.kind 15)=true->((eqN p1.mem 0)=true->K (eqN p1.bit 0))/\((eqN p1.mem 0)=false->K false))/\((neN p1.kind 15)=false->((!ltN p1.mem 0)=true->((ltN p1.mem p0.mems.length)=true->((!ltN p1.bit 0)=true->∃ x1,p0.mems[p1.mem]?=some x1/\K (ltN p1.bit x1.data.length))/\((!ltN p1.bit 0)=false->K false))/\((ltN p1.mem p0.mems.length)=false->K false))/\((!ltN p1.mem 0)=false->K false))
theorem nw {p0:Circ}{p1:Node}{K:Bool->Prop} (hm:cK p0 p1 K) {h0:Heap} (hB:HasB vars h0):∃ r,K r/\CallD Tryz.prog NG 139 ⟨[aA p0,al p1]⟩ h0 (Value.bool r) h0:=by
 unfold cK at hm
 refine fw Tryz.func139 hB (enc:=Value.bool) (fun r=>PureV.flat rfl) fun O=>?_;conv=>whnf
 refine gX ?_
 refine fz ?_;refine gH ?_
 refine fz ?_;refine gX ?_
 refine br hm (fun hm=>?_) fun hm=>?_
 ·refine gX ?_
  refine br hm (fun hm=>?_) fun hm=>?_
  ·refine gX ?_
   exact fe hm O
  ·refine gX ?_
   exact fe hm O
 ·refine gX ?_
  refine br hm (fun hm=>?_) fun hm=>?_
  ·refine gX ?_
   refine dF ?_
   refine gX ?_
   refine br hm (fun hm=>?_) fun hm=>?_
   ·refine gX ?_
    refine br hm (fun hm=>?_) fun hm=>?_
    ·refine gX ?_
     refine dF ?_
     refine gX ?_
     refine atF hm fun x1 hx1 hm=>?_;refine gH ?_
     refine dF ?_
     refine gX ?_
     exact fe hm O
    ·refine gX ?_
     exact fe hm O
   ·refine gX ?_
    refine bf ?_;refine gX ?_
    exact fe hm O
  ·refine gX ?_
   refine bf ?_;refine gH ?_
   refine bf ?_;refine gX ?_
   exact fe hm O
def cX (p0:Circ) (p1:Node) (K:Nat->Prop):Prop :=
 fx p1.kind (fun r1=>((ltN 15 p1.kind)=true->K 7)/\((ltN 15 p1.kind)=false->an (α:=Bool) (fun k3=>((ltN p1.ins.length r1.1)=true->k3 true)/\((ltN p1.ins.length r1.1)=false->k3 (ltI r1.2 (Int.ofNat p1.ins.length)))) (fun v2=>(v2=true->K 8)/\(v2=false->ch p1.ins p0 (fun r4=>(r4=true->K 1)/\(r4=false->an (α:=Bool) (fun k6=>((eqN p1.kind 13)=true->fN p1.ins p0 (fun r7=>k6 r7))/\((eqN p1.kind 13)=false->k6 false)) (fun v5=>(v5=true->K 7)/\(v5=false->cK p0 p1 (fun r8=>((!r8)=true->K 1)/\((!r8)=false->K 0))))))))))
theorem mK {p0:Circ}{p1:Node}{K:Nat->Prop} (hm:cX p0 p1 K) {h0:Heap} (hB:HasB vars h0):∃ r,K r/\CallD Tryz.prog NG 125 ⟨[aA p0,al p1]⟩ h0 (i64 r) h0:=by
 unfold cX at hm
 refine fw Tryz.func125 hB (enc:=i64) (fun r=>PureV.flat rfl) fun O=>?_;conv=>whnf
 refine gX ?_
 refine fz ?_;refine gH ?_
 refine fz ?_;refine gX ?_
 refine ca (jA hm O.has) fun r1 hm=>?_;refine gX ?_
 refine br hm (fun hm=>?_) fun hm=>?_
 ·refine gX ?_
  exact fe hm O
 ·refine jn hm 53 [2,3,7] (fun s=>s) (fun v2 h=>Own vars h0 [] h) (fun v2=>[(19,(.bool v2))]) (fun hm=>?_) ?_
  ·refine gX ?_
   refine br hm (fun hm=>?_) fun hm=>?_
   ·refine gX ?_
    exact jx true hm O
   ·refine gX ?_
    exact jx (ltI r1.2 (Int.ofNat p1.ins.length)) hm O
  ·clear hm;rintro v2 base h hm O
   refine gX ?_
   refine br hm (fun hm=>?_) fun hm=>?_
   ·refine gX ?_
    exact fe hm O
   ·refine gX ?_
    refine dF ?_
    refine gX ?_
    refine dF ?_
    refine gX ?_
    refine fg Tryz.func129 ?_;refine gX ?_
    refine fz ?_;refine gX ?_
    refine⟨.inl (Ext.refl _),?_⟩;refine gH ?_
    refine ca (eU hm O.has) fun r4 hm=>?_;refine gH ?_
    refine⟨.inl (Ext.refl _),?_⟩;refine gH ?_
    refine gX ?_
    refine br hm (fun hm=>?_) fun hm=>?_
    ·refine gX ?_
     exact fe hm O
    ·refine jn hm 53 [2,3] (fun s=>s) (fun v5 h=>Own vars h0 [] h) (fun v5=>[(38,(.bool v5))]) (fun hm=>?_) ?_
     ·refine gX ?_
      refine br hm (fun hm=>?_) fun hm=>?_
      ·refine gX ?_
       refine ca (pU hm O.has) fun r7 hm=>?_;refine gH ?_
       exact jx r7 hm O
      ·refine gX ?_
       exact jx false hm O
     ·clear hm;rintro v5 base h hm O
      refine gX ?_
      refine br hm (fun hm=>?_) fun hm=>?_
      ·refine gX ?_
       exact fe hm O
      ·refine gX ?_
       refine ca (nw hm O.has) fun r8 hm=>?_;refine gX ?_
       refine br hm (fun hm=>?_) fun hm=>?_
       ·refine gX ?_
        exact fe hm O
       ·refine gX ?_
        exact fe hm O
def cq (p0:Circ) (p1:Memo) (K:Nat->Prop):Prop :=
 an (α:=Bool) (fun k2=>((eqN p1.addr.length 0)=true->k2 true)/\((eqN p1.addr.length 0)=false->((ltN 8 p1.addr.length)=true->k2 true)/\((ltN 8 p1.addr.length)=false->((eqN p1.data.length 0)=true->k2 true)/\((eqN p1.data.length 0)=false->k2 (ltN 32 p1.data.length))))) (fun v1=>(v1=true->K 8)/\(v1=false->an (α:=Bool) (fun k4=>ch p1.addr p0 (fun r5=>(r5=true->k4 true)/\(r5=false->ch p1.data p0 (fun r6=>(r6=true->k4 true)/\(r6=false->((ltN p1.write 0)=true->k4 true)/\((ltN p1.write 0)=false->k4 (!ltN p1.write p0.nodes.length))))))) (fun v3=>(v3=true->K 1)/\(v3=false->K 0))))
theorem kW {p0:Circ}{p1:Memo}{K:Nat->Prop} (hm:cq p0 p1 K) {h0:Heap} (hB:HasB vars h0):∃ r,K r/\CallD Tryz.prog NG 127 ⟨[aA p0,ax p1]⟩ h0 (i64 r) h0:=by
 unfold cq at hm
 refine fw Tryz.func127 hB (enc:=i64) (fun r=>PureV.flat rfl) fun O=>?_;conv=>whnf
 refine gX ?_
 refine fz ?_;refine gH ?_
 refine fz ?_;refine gX ?_
 refine fg Tryz.func129 ?_;refine gX ?_
 refine fz ?_;refine gH ?_
 apply Cs;conv=>whnf
 apply Cs;refine gH ?_
 apply Cs;conv=>whnf
 refine gH ?_
 apply Cs;conv=>whnf
 apply Cs;conv=>whnf
 refine jn hm 37 [3,6] (fun s=>s) (fun v1 h=>Own vars h0 [] h) (fun v1=>[(9,(.bool v1))]) (fun hm=>?_) ?_
 ·refine gX ?_
  refine fg Tryz.func141 ?_;refine gX ?_
  refine br hm (fun hm=>?_) fun hm=>?_
  ·refine gX ?_
   refine bt ?_;refine gH ?_
   exact jx true hm O
  ·refine gX ?_
   refine br hm (fun hm=>?_) fun hm=>?_
   ·refine gX ?_
    exact jx true hm O
   ·refine gX ?_
    refine fg Tryz.func141 ?_;refine gX ?_
    refine br hm (fun hm=>?_) fun hm=>?_
    ·refine gX ?_
     exact jx true hm O
    ·refine gX ?_
     exact jx (ltN 32 p1.data.length) hm O
 ·clear hm;rintro v1 base h hm O
  refine gX ?_
  refine br hm (fun hm=>?_) fun hm=>?_
  ·refine gX ?_
   exact fe hm O
  ·refine jn hm 37 [] (fun s=>s) (fun v3 h=>Own vars h0 [] h) (fun v3=>[(20,(.bool v3))]) (fun hm=>?_) ?_
   ·refine gX ?_
    refine ca (eU hm O.has) fun r5 hm=>?_;refine gH ?_
    refine br hm (fun hm=>?_) fun hm=>?_
    ·refine gX ?_
     refine bt ?_;refine gH ?_
     exact jx true hm O
    ·refine gX ?_
     refine ca (eU hm O.has) fun r6 hm=>?_;refine gH ?_
     refine br hm (fun hm=>?_) fun hm=>?_
     ·refine gX ?_
      exact jx true hm O
     ·refine gX ?_
      refine fg Tryz.func143 ?_;refine gX ?_
      refine br hm (fun hm=>?_) fun hm=>?_
      ·refine gX ?_
       exact jx true hm O
      ·refine gX ?_
       exact jx (!ltN p1.write p0.nodes.length) hm O
   ·clear hm;rintro v3 base h hm O
    refine gX ?_
    refine br hm (fun hm=>?_) fun hm=>?_
    ·refine gX ?_
     exact fe hm O
    ·refine gX ?_
     exact fe hm O
def cR (p0:Circ) (K:Nat->Prop):Prop :=
 an (α:=Bool) (fun k2=>((ltN 16384 p0.nodes.length)=true->k2 true)/\((ltN 16384 p0.nodes.length)=false->((ltN 16 p0.mems.length)=true->k2 true)/\((ltN 16 p0.mems.length)=false->k2 (ltN 16384 p0.outs.length)))) (fun v1=>(v1=true->K 3)/\(v1=false->((neN p0.names.length p0.nodes.length)=true->K 8)/\((neN p0.names.length p0.nodes.length)=false->an (α:=Unit) (fun k3=>av (S:=Nat) (fun v4 nx5=>((ltN v4 p0.nodes.length)=true->∃ x6,p0.nodes[v4]?=some x6/\cX p0 x6 (fun r9=>((neN r9 0)=true->K r9)/\((neN r9 0)=false->v4+1<2 ^ 63/\nx5 (v4+1))))/\((ltN v4 p0.nodes.length)=false->k3 ())) 0) (fun _=>fF p0 (fun r10=>((neN r10 0)=true->K r10)/\((neN r10 0)=false->an (α:=Unit) (fun k11=>av (S:=Nat) (fun v12 nx13=>((ltN v12 p0.mems.length)=true->∃ x14,p0.mems[v12]?=some x14/\cq p0 x14 (fun r17=>((neN r17 0)=true->K r17)/\((neN r17 0)=false->v12+1<2 ^ 63/\nx13 (v12+1))))/\((ltN v12 p0.mems.length)=false->k11 ())) 0) (fun _=>ch p0.outs p0 (fun r18=>(r18=true->K 1)/\(r18=false->K 0)))))))))
theorem lM {p0:Circ}{K:Nat->Prop} (hm:cR p0 K) {h0:Heap} (hB:HasB vars h0):∃ r,K r/\CallD Tryz.prog NG 97 ⟨[aA p0]⟩ h0 (i64 r) h0:=by
 unfold cR at hm
 refine fw Tryz.func97 hB (enc:=i64) (fun r=>PureV.flat rfl) fun O=>?_;conv=>whnf
 refine gX ?_
 refine fz ?_;refine gH ?_
 apply Cs;conv=>whnf
 apply Cs;conv=>whnf
 refine jn hm 73 [1] (fun s=>s) (fun v1 h=>Own vars h0 [] h) (fun v1=>[(10,(.bool v1))]) (fun hm=>?_) ?_
 ·refine gX ?_
  refine br hm (fun hm=>?_) fun hm=>?_
  ·refine gX ?_
   refine bt ?_;refine gH ?_
   exact jx true hm O
  ·refine gX ?_
   refine br hm (fun hm=>?_) fun hm=>?_
   ·refine gX ?_
    exact jx true hm O
   ·refine gX ?_
    exact jx (ltN 16384 p0.outs.length) hm O
 ·clear hm;rintro v1 base h hm O
  refine gX ?_
  refine br hm (fun hm=>?_) fun hm=>?_
  ·refine gX ?_
   exact fe hm O
  ·refine gX ?_
   refine br hm (fun hm=>?_) fun hm=>?_
   ·refine gX ?_
    exact fe hm O
   ·apply Cs;conv=>whnf
    refine jn hm 73 [1] (fun s=>s) (fun _ h=>Own vars h0 [] h) (fun _=>[]) (fun hm=>?_) ?_
    ·refine gX ?_
     refine lw 73 [1,36,37] (σ:=Nat) (fun s=>s) (fun v4 h=>Own vars h0 [] h) (fun v4=>[(38,(i64 v4))]) 0 hm O ?_
     clear hm;rintro v4 nx5 base h hm O
     refine gX ?_
     refine br hm (fun hm=>?_) fun hm=>?_
     ·refine gX ?_
      refine atF hm fun x6 hx6 hm=>?_;refine gH ?_
      refine O.new (ai (l:=[(n8 0),nS,(i64 0),(i64 0)]) rfl rfl rfl) fun g7 h O=>?_;refine gH ?_
      refine O.stC 4 (.head _) [(n8 x6.kind),((ag 1 i64) x6.ins),(i64 x6.mem),(i64 x6.bit)] fun h O=>?_;refine gX ?_
      refine ldA (O.at (.head _)) ?_;refine gH ?_
      refine ca (mK hm O.has) fun r9 hm=>?_;refine gX ?_
      refine br hm (fun hm=>?_) fun hm=>?_
      ·refine gX ?_
       exact fe hm O
      ·refine gX ?_
       refine aF hm fun hm=>?_;refine gH ?_
       exact jx (v4+1) hm (O.sel [] (by decide))
     ·refine gX ?_
      exact jx () hm O
    ·clear hm;rintro _ base h hm O
     refine gX ?_
     refine ca (lD hm O.has) fun r10 hm=>?_;refine gX ?_
     refine br hm (fun hm=>?_) fun hm=>?_
     ·refine gX ?_
      exact fe hm O
     ·apply Cs;conv=>whnf
      refine jn hm 73 [1] (fun s=>s) (fun _ h=>Own vars h0 [] h) (fun _=>[]) (fun hm=>?_) ?_
      ·refine gX ?_
       refine lw 73 [1,55,56] (σ:=Nat) (fun s=>s) (fun v12 h=>Own vars h0 [] h) (fun v12=>[(57,(i64 v12))]) 0 hm O ?_
       clear hm;rintro v12 nx13 base h hm O
       refine gX ?_
       refine br hm (fun hm=>?_) fun hm=>?_
       ·refine gX ?_
        refine atF hm fun x14 hx14 hm=>?_;refine gH ?_
        refine O.new (ai (l:=[nS,nS,(i64 0)]) rfl rfl rfl) fun g15 h O=>?_;refine gH ?_
        refine O.stC 3 (.head _) [((ag 1 i64) x14.addr),((ag 1 i64) x14.data),(i64 x14.write)] fun h O=>?_;refine gX ?_
        refine ldA (O.at (.head _)) ?_;refine gH ?_
        refine ca (kW hm O.has) fun r17 hm=>?_;refine gX ?_
        refine br hm (fun hm=>?_) fun hm=>?_
        ·refine gX ?_
         exact fe hm O
        ·refine gX ?_
         refine aF hm fun hm=>?_;refine gH ?_
         exact jx (v12+1) hm (O.sel [] (by decide))
       ·refine gX ?_
        exact jx () hm O
      ·clear hm;rintro _ base h hm O
       refine gX ?_
       refine dF ?_
       refine gX ?_
       refine dF ?_
       refine gX ?_
       refine fg Tryz.func129 ?_;refine gX ?_
       refine fz ?_;refine gX ?_
       refine⟨.inl (Ext.refl _),?_⟩;refine gH ?_
       refine ca (eU hm O.has) fun r18 hm=>?_;refine gH ?_
       refine⟨.inl (Ext.refl _),?_⟩;refine gH ?_
       refine gX ?_
       refine br hm (fun hm=>?_) fun hm=>?_
       ·refine gX ?_
        exact fe hm O
       ·refine gX ?_
        exact fe hm O
def cr (p0:Circ) (p1:(List Nat)) (K:(List Nat)->Prop):Prop :=
 an (α:=(List Nat)) (fun k5=>av (S:=((List Nat)×Nat)) (fun (v7,v8) nx10=>((ltN v8 p0.nodes.length)=true->an (α:=(List Nat)) (fun k14=>∃ x15,p0.nodes[v8]?=some x15/\dr p1 x15.kind (fun r18=>(r18=true->(v7.length+([v8]:(List Nat)).length)*8<=2 ^ 47/\k14 (v7++([v8]:(List Nat))))/\(r18=false->k14 v7))) (fun v12=>v8+1<2 ^ 63/\nx10 (v12,(v8+1))))/\((ltN v8 p0.nodes.length)=false->k5 v7)) (([]:List Nat),0)) (fun v3=>K v3)
theorem gh {p0:Circ}{p1:(List Nat)}{K:(List Nat)->Prop} (hm:cr p0 p1 K) {h0:Heap} (hB:HasB vars h0):∃ r,K r/\CallD Tryz.prog NG 45 ⟨[aA p0,(ag 1 n8) p1]⟩ h0 ((ag 1 i64) r) h0:=by
 unfold cr at hm
 refine fw Tryz.func45 hB (enc:=(ag 1 i64)) (fun r=>dg (fun _=>aj.cons (PureV.flat rfl) aj.nil)) fun O=>?_;conv=>whnf
 refine gX ?_
 refine fz ?_;refine gH ?_
 apply Cs;conv=>whnf
 apply Cs;refine gH ?_
 have O:=O.aG (.cells (flatC ((([]:List Nat)).map i64)) false)
 refine jn (σ:=(List Nat)×Option Nat) hm 27 [] (fun s=>s.1) (fun (v3,a2) h=>(a2=none->v3=[])/\Own vars h0 [(a2,.cells (flatC (v3.map i64)) false)] h) (fun (v3,a2)=>[(5,(ah 1 a2 (v3.map i64)))]) (fun hm=>?_) ?_
 ·refine gX ?_
  refine lw 27 [1,9,10] (σ:=((List Nat)×Nat)×Option Nat) (fun s=>s.1) (fun ((v7,v8),a6) h=>(a6=none->v7=[])/\Own vars h0 [(a6,.cells (flatC (v7.map i64)) false)] h) (fun ((v7,v8),a6)=>[(5,(ah 1 a6 (v7.map i64))),(11,(i64 v8))]) ((([]:List Nat),0),none) hm ⟨(fun _=>rfl),O⟩ ?_
  clear hm;rintro⟨⟨v7,v8⟩,a6⟩ nx10 base h hm ⟨ha9,O⟩
  refine gX ?_
  refine br hm (fun hm=>?_) fun hm=>?_
  ·apply Cs;conv=>whnf
   refine jn (σ:=(List Nat)×Option Nat) hm 27 [1,9,10,11] (fun s=>s.1) (fun (v12,a11) h=>(a11=none->v12=[])/\Own vars h0 [(a11,.cells (flatC (v12.map i64)) false)] h) (fun (v12,a11)=>[(5,(ah 1 a11 (v12.map i64)))]) (fun hm=>?_) ?_
   ·refine gX ?_
    refine atF hm fun x15 hx15 hm=>?_;refine gH ?_
    refine O.new (ai (l:=[(n8 0),nS,(i64 0),(i64 0)]) rfl rfl rfl) fun g16 h O=>?_;refine gH ?_
    refine O.stC 4 (.head _) [(n8 x15.kind),((ag 1 i64) x15.ins),(i64 x15.mem),(i64 x15.bit)] fun h O=>?_;refine gX ?_
    refine ca (np hm O.has) fun r18 hm=>?_;refine gX ?_
    refine br hm (fun hm=>?_) fun hm=>?_
    ·refine gX ?_
     refine fz ?_;refine gH ?_
     refine O.apL (enc:=i64) (l:=v7) (new:=([v8]:(List Nat))) 1 (.tail _ (.head _)) ha9 hm fun a19 h ha20 O hm=>?_;refine gH ?_
     exact jx ((v7++([v8]:(List Nat))),a19) hm ⟨ha20,(O.sel [1] (by decide))⟩
    ·refine gX ?_
     exact jx (v7,a6) hm ⟨ha9,(O.sel [1] (by decide))⟩
   ·clear hm;rintro⟨v12,a11⟩ base h hm ⟨ha13,O⟩
    refine gX ?_
    refine aF hm fun hm=>?_;refine gH ?_
    exact jx ((v12,(v8+1)),a11) hm ⟨ha13,O⟩
  ·refine gX ?_
   exact jx (v7,a6) hm ⟨ha9,O⟩
 ·clear hm;rintro⟨v3,a2⟩ base h hm ⟨ha4,O⟩
  refine gX ?_
  refine fg Tryz.func28 ?_;refine gX ?_
  refine gK (s:=1) (enc:=i64) (l:=v3) (n:=v3.length) (m:=v3.length) rfl rfl rfl rfl rfl rfl rfl ?_;refine gX ?_
  exact⟨v3,hm,O.ext,fun h2 F=>O.iH F (Nat.le_refl _) (.head _) ha4 (fun _=>rfl)⟩
def bU (p0:Circ) (K:((List Nat)×Nat)->Prop):Prop :=
 cR p0 (fun r1=>((neN r1 0)=true->K ([],r1))/\((neN r1 0)=false->8*p0.nodes.length<=2 ^ 48/\p0.nodes.length<2 ^ 63/\8*p0.nodes.length<=2 ^ 48/\p0.nodes.length<2 ^ 63/\an (α:=((List Nat)×(List Nat))) (fun k11=>av (S:=((List Nat)×(List Nat)×Nat)) (fun (v12,v14,v15) nx17=>((ltN v15 p0.nodes.length)=true->an (α:=((List Nat)×(List Nat))) (fun k22=>∃ x23,p0.nodes[v15]?=some x23/\an (α:=(List Nat)) (fun k28=>bW x23.kind (fun r29=>(r29=true->v15<p0.nodes.length/\∃ x30,v12[v15]?=some x30/\k28 (v12.set v15 x23.ins.length))/\(r29=false->k28 v12))) (fun v26=>v15<p0.nodes.length/\∃ x31,v26[v15]?=some x31/\((eqN x31 0)=true->(v14.length+([v15]:(List Nat)).length)*8<=2 ^ 47/\k22 (v26,(v14++([v15]:(List Nat)))))/\((eqN x31 0)=false->k22 (v26,v14)))) (fun (v18,v20)=>v15+1<2 ^ 63/\nx17 (v18,v20,(v15+1))))/\((ltN v15 p0.nodes.length)=false->k11 (v12,v14))) ((List.replicate p0.nodes.length (0:Nat)),([]:List Nat),0)) (fun (v7,v9)=>ff p0 (fun r34=>an (α:=((List Nat)×Nat)) (fun k37=>av (S:=((List Nat)×(List Nat)×(List Nat)×Nat)) (fun (v38,v39,v41,v42) nx44=>((ltN v42 v41.length)=true->∃ x45,v41[v42]?=some x45/\v42+1<2 ^ 63/\∃ x47,r34[x45]?=some x47/\((eqN x47.length 0)=true->nx44 (v38,v39,v41,(v42+1)))/\((eqN x47.length 0)=false->∃ x48,r34[x45]?=some x48/\av (S:=((List Nat)×(List Nat)×(List Nat)×Nat)) (fun (v49,v50,v52,v53) nx55=>((ltN v53 x48.length)=true->an (α:=((List Nat)×(List Nat)×(List Nat))) (fun k61=>∃ x62,x48[v53]?=some x62/\∃ x65,p0.nodes[x62.node]?=some x65/\bW x65.kind (fun r66=>((!r66)=true->k61 (v49,v50,v52))/\((!r66)=false->x62.node<p0.nodes.length/\∃ x67,v49[x62.node]?=some x67/\x45<p0.nodes.length/\∃ x68,v49[x45]?=some x68/\x68+1<2 ^ 63/\x62.node<p0.nodes.length/\∃ x69,v49[x62.node]?=some x69/\x62.node<p0.nodes.length/\∃ x70,v50[x62.node]?=some x70/\1<=x70/\x70<2 ^ 63/\x62.node<p0.nodes.length/\∃ x71,v50[x62.node]?=some x71/\x62.node<p0.nodes.length/\∃ x72,(v50.set x62.node (x70-1))[x62.node]?=some x72/\((eqN x72 0)=true->(v52.length+([x62.node]:(List Nat)).length)*8<=2 ^ 47/\k61 ((v49.set x62.node (max x67 (x68+1))),(v50.set x62.node (x70-1)),(v52++([x62.node]:(List Nat)))))/\((eqN x72 0)=false->k61 ((v49.set x62.node (max x67 (x68+1))),(v50.set x62.node (x70-1)),v52))))) (fun (v56,v57,v59)=>v53+1<2 ^ 63/\nx55 (v56,v57,v59,(v53+1))))/\((ltN v53 x48.length)=false->nx44 (v49,v50,v52,(v42+1)))) (v38,v39,v41,0)))/\((ltN v42 v41.length)=false->k37 (v38,v42))) ((List.replicate p0.nodes.length (0:Nat)),v7,v9,0)) (fun (v35,v36)=>((ltN v36 p0.nodes.length)=true->K ([],6))/\((ltN v36 p0.nodes.length)=false->p0.nodes.length=v35.length/\K (v35,0)))))))
theorem gI {p0:Circ}{K:((List Nat)×Nat)->Prop} (hm:bU p0 K) {h0:Heap} (hB:HasB vars h0):∃ r,K r/\CallD Tryz.prog NG 56 ⟨[aA p0]⟩ h0 ((fun (r:((List Nat)×Nat))=>Value.tuple ⟨[(ag 1 i64) (r.1),i64 (r.2)]⟩) r) h0:=by
 unfold bU at hm
 refine fw Tryz.func56 hB (enc:=(fun (r:((List Nat)×Nat))=>Value.tuple ⟨[(ag 1 i64) (r.1),i64 (r.2)]⟩)) (fun r=>PureV.tup (aj.cons (dg (fun _=>aj.cons (PureV.flat rfl) aj.nil)) (aj.cons (PureV.flat rfl) (aj.nil)))) fun O=>?_;conv=>whnf
 refine gX ?_
 refine fz ?_;refine gX ?_
 refine ca (lM hm O.has) fun r1 hm=>?_;refine gX ?_
 refine br hm (fun hm=>?_) fun hm=>?_
 ·refine gX ?_
  exact⟨([],r1),hm,O.ext,fun h2 F=>VLe.tup (LLe.cons (VLe.nil _ _) (LLe.cons (VLe.refl _ _) (LLe.nil _)))⟩
 ·refine gX ?_
  refine O.mkL (enc:=i64) 8 1 0 hm fun g2 h O hm=>?_;refine gX ?_
  refine O.mkL (enc:=i64) 8 1 0 hm fun g4 h O hm=>?_;refine gH ?_
  apply Cs;conv=>whnf
  apply Cs;refine gH ?_
  have O:=O.aG (.cells (flatC ((([]:List Nat)).map i64)) false)
  refine jn (σ:=((List Nat)×(List Nat))×Option Nat) hm 131 [1,5,6] (fun s=>s.1) (fun ((v7,v9),a8) h=>(a8=none->v9=[])/\Own vars h0 [(sC g2 (flatC ((List.replicate p0.nodes.length (0:Nat)).map i64))),(sC g4 (flatC (v7.map i64))),(a8,.cells (flatC (v9.map i64)) false)] h) (fun ((v7,v9),a8)=>[(7,(ah 1 a8 (v9.map i64)))]) (fun hm=>?_) ?_
  ·refine gX ?_
   refine lw 131 [1,5,6,29,30] (σ:=((List Nat)×(List Nat)×Nat)×Option Nat) (fun s=>s.1) (fun ((v12,v14,v15),a13) h=>(a13=none->v14=[])/\Own vars h0 [(sC g2 (flatC ((List.replicate p0.nodes.length (0:Nat)).map i64))),(sC g4 (flatC (v12.map i64))),(a13,.cells (flatC (v14.map i64)) false)] h) (fun ((v12,v14,v15),a13)=>[(7,(ah 1 a13 (v14.map i64))),(31,(i64 v15))]) (((List.replicate p0.nodes.length (0:Nat)),([]:List Nat),0),none) hm ⟨(fun _=>rfl),(O.sel [2,1,0] (by decide))⟩ ?_
   clear hm;rintro⟨⟨v12,v14,v15⟩,a13⟩ nx17 base h hm ⟨ha16,O⟩
   refine gX ?_
   refine br hm (fun hm=>?_) fun hm=>?_
   ·apply Cs;conv=>whnf
    refine jn (σ:=((List Nat)×(List Nat))×Option Nat) hm 131 [1,5,6,29,30,31] (fun s=>s.1) (fun ((v18,v20),a19) h=>(a19=none->v20=[])/\Own vars h0 [(sC g2 (flatC ((List.replicate p0.nodes.length (0:Nat)).map i64))),(sC g4 (flatC (v18.map i64))),(a19,.cells (flatC (v20.map i64)) false)] h) (fun ((v18,v20),a19)=>[(7,(ah 1 a19 (v20.map i64)))]) (fun hm=>?_) ?_
    ·refine gX ?_
     refine atF hm fun x23 hx23 hm=>?_;refine gH ?_
     refine O.new (ai (l:=[(n8 0),nS,(i64 0),(i64 0)]) rfl rfl rfl) fun g24 h O=>?_;refine gH ?_
     refine O.stC 4 (.head _) [(n8 x23.kind),((ag 1 i64) x23.ins),(i64 x23.mem),(i64 x23.bit)] fun h O=>?_;refine gH ?_
     refine jn hm 131 [1,5,6,7,8,29,30,31] (fun s=>s) (fun v26 h=>(a13=none->v14=[])/\Own vars h0 [(sC g2 (flatC ((List.replicate p0.nodes.length (0:Nat)).map i64))),(sC g4 (flatC (v26.map i64))),(a13,.cells (flatC (v14.map i64)) false)] h) (fun v26=>[]) (fun hm=>?_) ?_
     ·refine gX ?_
      refine ca (fj hm O.has) fun r29 hm=>?_;refine gX ?_
      refine br hm (fun hm=>?_) fun hm=>?_
      ·refine gX ?_
       refine ix 1 hm fun x30 hx30 hm=>?_;refine gH ?_
       refine O.stE 1 (.tail _ (.tail _ (.head _))) hx30 x23.ins.length fun h O=>?_;refine gH ?_
       exact jx (v12.set v15 x23.ins.length) hm ⟨ha16,(O.sel [1,2,3] (by decide))⟩
      ·refine gX ?_
       exact jx v12 hm ⟨ha16,(O.sel [1,2,3] (by decide))⟩
     ·clear hm;rintro v26 base h hm ⟨ha27,O⟩
      refine gX ?_
      refine ix 1 hm fun x31 hx31 hm=>?_;refine gH ?_
      refine ldE (s:=1) (i:=0) (O.at (.tail _ (.head _))) hx31 ?_;refine gX ?_
      refine br hm (fun hm=>?_) fun hm=>?_
      ·refine gX ?_
       refine fz ?_;refine gH ?_
       refine O.apL (enc:=i64) (l:=v14) (new:=([v15]:(List Nat))) 1 (.tail _ (.tail _ (.head _))) ha27 hm fun a32 h ha33 O hm=>?_;refine gH ?_
       exact jx ((v26,(v14++([v15]:(List Nat)))),a32) hm ⟨ha33,O⟩
      ·refine gX ?_
       exact jx ((v26,v14),a13) hm ⟨ha27,O⟩
    ·clear hm;rintro⟨⟨v18,v20⟩,a19⟩ base h hm ⟨ha21,O⟩
     refine gX ?_
     refine aF hm fun hm=>?_;refine gH ?_
     exact jx ((v18,v20,(v15+1)),a19) hm ⟨ha21,O⟩
   ·refine gX ?_
    exact jx ((v12,v14),a13) hm ⟨ha16,O⟩
  ·clear hm;rintro⟨⟨v7,v9⟩,a8⟩ base h hm ⟨ha10,O⟩
   refine gX ?_
   refine ca (lf hm O.has) fun r34 hm=>?_;refine gH ?_
   apply Cs;conv=>whnf
   apply Cs;refine gH ?_
   apply Cs;conv=>whnf
   apply Cs;conv=>whnf
   refine jn hm 131 [1,5] (fun s=>s) (fun (v35,v36) h=>Own vars h0 [(sC g2 (flatC (v35.map i64)))] h) (fun (v35,v36)=>[(11,(i64 v36))]) (fun hm=>?_) ?_
   ·refine gX ?_
    refine lw 131 [1,5,6,10] (σ:=((List Nat)×(List Nat)×(List Nat)×Nat)×Option Nat) (fun s=>s.1) (fun ((v38,v39,v41,v42),a40) h=>(a40=none->v41=[])/\Own vars h0 [(sC g2 (flatC (v38.map i64))),(sC g4 (flatC (v39.map i64))),(a40,.cells (flatC (v41.map i64)) false)] h) (fun ((v38,v39,v41,v42),a40)=>[(7,(ah 1 a40 (v41.map i64))),(11,(i64 v42))]) (((List.replicate p0.nodes.length (0:Nat)),v7,v9,0),a8) hm ⟨ha10,O⟩ ?_
    clear hm;rintro⟨⟨v38,v39,v41,v42⟩,a40⟩ nx44 base h hm ⟨ha43,O⟩
    refine gX ?_
    refine br hm (fun hm=>?_) fun hm=>?_
    ·refine gX ?_
     obtain⟨x45,hx45,hm⟩:=hm
     have h9:=hm
     obtain⟨g46,rfl⟩:=ee ha43 hx45
     replace hm:=h9
     refine cU (s:=1) (j:=v42) rfl rfl rfl rfl (by rw[List.length_map];exact ak hx45) ?_;refine gH ?_
     refine ldE (s:=1) (i:=0) (O.at (.tail _ (.tail _ (.head _)))) hx45 ?_;refine gX ?_
     refine aF hm fun hm=>?_;refine gX ?_
     refine atF hm fun x47 hx47 hm=>?_;refine gX ?_
     refine br hm (fun hm=>?_) fun hm=>?_
     ·refine gX ?_
      exact jx ((v38,v39,v41,(v42+1)),(some g46)) hm ⟨dq,O⟩
     ·refine gX ?_
      refine atF hm fun x48 hx48 hm=>?_;refine gX ?_
      refine lw 131 [1,5,6,10,11,12,76,77] (σ:=((List Nat)×(List Nat)×(List Nat)×Nat)×Option Nat) (fun s=>s.1) (fun ((v49,v50,v52,v53),a51) h=>(a51=none->v52=[])/\Own vars h0 [(sC g2 (flatC (v49.map i64))),(sC g4 (flatC (v50.map i64))),(a51,.cells (flatC (v52.map i64)) false)] h) (fun ((v49,v50,v52,v53),a51)=>[(7,(ah 1 a51 (v52.map i64))),(78,(i64 v53))]) ((v38,v39,v41,0),(some g46)) hm ⟨dq,O⟩ ?_
      clear hm;rintro⟨⟨v49,v50,v52,v53⟩,a51⟩ nx55 base h hm ⟨ha54,O⟩
      refine gX ?_
      refine br hm (fun hm=>?_) fun hm=>?_
      ·apply Cs;conv=>whnf
       refine jn (σ:=((List Nat)×(List Nat)×(List Nat))×Option Nat) hm 131 [1,5,6,10,11,12,76,77,78] (fun s=>s.1) (fun ((v56,v57,v59),a58) h=>(a58=none->v59=[])/\Own vars h0 [(sC g2 (flatC (v56.map i64))),(sC g4 (flatC (v57.map i64))),(a58,.cells (flatC (v59.map i64)) false)] h) (fun ((v56,v57,v59),a58)=>[(7,(ah 1 a58 (v59.map i64)))]) (fun hm=>?_) ?_
       ·refine gX ?_
        refine atF hm fun x62 hx62 hm=>?_;refine gH ?_
        refine O.new (ai (l:=[(i64 0),(i64 0)]) rfl rfl rfl) fun g63 h O=>?_;refine gH ?_
        refine O.stC 2 (.head _) [(i64 x62.node),(i64 x62.pin)] fun h O=>?_;refine gX ?_
        refine atF hm fun x65 hx65 hm=>?_;refine gH ?_
        refine ca (fj hm O.has) fun r66 hm=>?_;refine gX ?_
        refine br hm (fun hm=>?_) fun hm=>?_
        ·refine gX ?_
         exact jx ((v49,v50,v52),a51) hm ⟨ha54,(O.sel [1,2,3] (by decide))⟩
        ·refine gX ?_
         refine ix 1 hm fun x67 hx67 hm=>?_;refine gH ?_
         refine⟨_,ae rfl (O.at (.tail _ (.head _))) rfl (bd (enc:=i64) (s:=1) (k:=0) (fun _=>rfl) hx67 rfl),?_⟩;refine gH ?_
         refine ix 1 hm fun x68 hx68 hm=>?_;refine gH ?_
         refine⟨_,ae rfl (O.at (.tail _ (.head _))) rfl (bd (enc:=i64) (s:=1) (k:=0) (fun _=>rfl) hx68 rfl),?_⟩;refine gH ?_
         refine aF hm fun hm=>?_;refine gH ?_
         refine⟨_,CL (a:=x67) (b:=(x68+1)) rfl rfl,?_⟩;refine gH ?_
         refine ix 1 hm fun x69 hx69 hm=>?_;refine gH ?_
         refine O.stE 1 (.tail _ (.head _)) hx69 (max x67 (x68+1)) fun h O=>?_;refine gH ?_
         refine gX ?_
         refine ix 1 hm fun x70 hx70 hm=>?_;refine gH ?_
         refine ldE (s:=1) (i:=0) (O.at (.tail _ (.tail _ (.head _)))) hx70 ?_;refine gH ?_
         refine rR hm fun hm=>?_;refine gH ?_
         refine ix 1 hm fun x71 hx71 hm=>?_;refine gH ?_
         refine O.stE 1 (.tail _ (.tail _ (.head _))) hx71 (x70-1) fun h O=>?_;refine gX ?_
         refine ix 1 hm fun x72 hx72 hm=>?_;refine gH ?_
         refine ldE (s:=1) (i:=0) (O.at (.tail _ (.tail _ (.head _)))) hx72 ?_;refine gX ?_
         refine br hm (fun hm=>?_) fun hm=>?_
         ·refine gX ?_
          refine fz ?_;refine gH ?_
          refine O.apL (enc:=i64) (l:=v52) (new:=([x62.node]:(List Nat))) 1 (.tail _ (.tail _ (.tail _ (.head _)))) ha54 hm fun a73 h ha74 O hm=>?_;refine gH ?_
          exact jx (((v49.set x62.node (max x67 (x68+1))),(v50.set x62.node (x70-1)),(v52++([x62.node]:(List Nat)))),a73) hm ⟨ha74,(O.sel [1,2,3] (by decide))⟩
         ·refine gX ?_
          exact jx (((v49.set x62.node (max x67 (x68+1))),(v50.set x62.node (x70-1)),v52),a51) hm ⟨ha54,(O.sel [1,2,3] (by decide))⟩
       ·clear hm;rintro⟨⟨v56,v57,v59⟩,a58⟩ base h hm ⟨ha60,O⟩
        refine gX ?_
        refine aF hm fun hm=>?_;refine gH ?_
        exact jx ((v56,v57,v59,(v53+1)),a58) hm ⟨ha60,O⟩
      ·refine gX ?_
       exact jx ((v49,v50,v52,(v42+1)),a51) hm ⟨ha54,O⟩
    ·refine gX ?_
     exact jx (v38,v42) hm (O.sel [0] (by decide))
   ·clear hm;rintro⟨v35,v36⟩ base h hm O
    refine gX ?_
    refine br hm (fun hm=>?_) fun hm=>?_
    ·refine gX ?_
     exact⟨([],6),hm,O.ext,fun h2 F=>VLe.tup (LLe.cons (VLe.nil _ _) (LLe.cons (VLe.refl _ _) (LLe.nil _)))⟩
    ·refine gX ?_
     obtain⟨hn75,hm⟩:=hm
     exact⟨(v35,0),hm,O.ext,fun h2 F=>VLe.tup (LLe.cons (O.fY F (Nat.le_refl _) (.head _) (fun _=>rfl) hn75) (LLe.cons (VLe.refl _ _) (LLe.nil _)))⟩
def cc (p0:Circ) (K:Nat->Prop):Prop :=
 bU p0 (fun r1=>K r1.2)
theorem gQ {p0:Circ}{K:Nat->Prop} (hm:cc p0 K) {h0:Heap} (hB:HasB vars h0):∃ r,K r/\CallD Tryz.prog NG 96 ⟨[aA p0]⟩ h0 (i64 r) h0:=by
 unfold cc at hm
 refine fw Tryz.func96 hB (enc:=i64) (fun r=>PureV.flat rfl) fun O=>?_;conv=>whnf
 refine gX ?_
 refine fz ?_;refine gX ?_
 refine ca (gI hm O.has) fun r1 hm=>?_;refine gX ?_
 exact fe hm O
def fJ (p0:Nat) (K:Bool->Prop):Prop :=
 K (neN p0 p0)
theorem kz {p0:Nat}{K:Bool->Prop} (hm:fJ p0 K) {h0:Heap} (hB:HasB vars h0):∃ r,K r/\CallD Tryz.prog NG 100 ⟨[i64 p0]⟩ h0 (Value.bool r) h0:=by
 unfold fJ at hm
 refine fw Tryz.func100 hB (enc:=Value.bool) (fun r=>PureV.flat rfl) fun O=>?_;conv=>whnf
 refine gX ?_
 exact fe hm O
def dS (p0:Nat) (p1:Nat) (K:Int->Prop):Prop :=
 fJ p0 (fun r1=>fJ p1 (fun r2=>(r1=true->(r2=true->K (Int.ofNat 0))/\(r2=false->K (Int.negSucc 0)))/\(r1=false->(r2=true->K (Int.ofNat 1))/\(r2=false->((ltN p0 p1)=true->K (Int.negSucc 0))/\((ltN p0 p1)=false->((ltN p1 p0)=true->K (Int.ofNat 1))/\((ltN p1 p0)=false->K (Int.ofNat 0)))))))
theorem nZ {p0:Nat}{p1:Nat}{K:Int->Prop} (hm:dS p0 p1 K) {h0:Heap} (hB:HasB vars h0):∃ r,K r/\CallD Tryz.prog NG 59 ⟨[i64 p0,i64 p1]⟩ h0 (z64 r) h0:=by
 unfold dS at hm
 refine fw Tryz.func59 hB (enc:=z64) (fun r=>PureV.flat rfl) fun O=>?_;conv=>whnf
 refine gX ?_
 refine ca (kz hm O.has) fun r1 hm=>?_;refine gX ?_
 refine ca (kz hm O.has) fun r2 hm=>?_;refine gX ?_
 refine br hm (fun hm=>?_) fun hm=>?_
 ·refine gX ?_
  refine br hm (fun hm=>?_) fun hm=>?_
  ·refine gX ?_
   exact fe hm O
  ·refine gX ?_
   exact fe hm O
 ·refine gX ?_
  refine br hm (fun hm=>?_) fun hm=>?_
  ·refine gX ?_
   exact fe hm O
  ·refine gX ?_
   refine br hm (fun hm=>?_) fun hm=>?_
   ·refine gX ?_
    exact fe hm O
   ·refine gX ?_
    refine br hm (fun hm=>?_) fun hm=>?_
    ·refine gX ?_
     exact fe hm O
    ·refine gX ?_
     exact fe hm O
def fk (data:List Nat) (lev:List Nat) (nd:Nat) (a:Nat) (b:Nat) (K:(List Nat)->Prop):Prop :=
 a+1<2 ^ 63/\av (S:=((List Nat)×Nat)) (fun (v1,v2) nx3=>((ltN v2 b)=true->an (α:=(List Nat)) (fun k5=>av (S:=((List Nat)×Nat)) (fun (v6,v7) nx8=>an (α:=Bool) (fun k10=>((ltN a v7)=true->v7<nd/\∃ x11,v6[v7]?=some x11/\1<=v7/\v7<2 ^ 63/\(v7-1)<nd/\∃ x12,v6[(v7-1)]?=some x12/\∃ x13,lev[x11]?=some x13/\∃ x14,lev[x12]?=some x14/\dS x13 x14 (fun r15=>k10 (ltI r15 (Int.ofNat 0))))/\((ltN a v7)=false->k10 false)) (fun v9=>(v9=true->1<=v7/\v7<2 ^ 63/\1<=v7/\v7<2 ^ 63/\(v7-1)<nd/\∃ x16,v6[(v7-1)]?=some x16/\v7<nd/\∃ x17,v6[v7]?=some x17/\v7<nd/\∃ x18,v6[v7]?=some x18/\(v7-1)<nd/\∃ x19,(v6.set v7 x16)[(v7-1)]?=some x19/\1<=v7/\v7<2 ^ 63/\nx8 (((v6.set v7 x16).set (v7-1) x17),(v7-1)))/\(v9=false->k5 v6))) (v1,v2)) (fun v4=>v2+1<2 ^ 63/\nx3 (v4,(v2+1))))/\((ltN v2 b)=false->K v1)) (data,(a+1))
theorem lQ {data:List Nat}{lev:List Nat}{nd:Nat}{a:Nat}{b:Nat}{gd:Nat}{gl:Nat}{L:List Slot}{K:(List Nat)->Prop} (hm:fk data lev nd a b K) {h0 h:Heap}  (O:Own vars h0 (((some gd),.cells (flatC (data.map i64)) false)::((some gl),.cells [((ag 1 i64) lev)] false)::L) h):∃ v h',CallD Tryz.prog NG 130 ⟨[(.slice (some ⟨gd,0,none⟩) nd nd),(i64 a),(i64 b),(.func (.func 58) ⟨[]⟩ ⟨[(.pointer (some ⟨gl,0,none⟩))]⟩)]⟩ h v h'/\∃ (w0:(List Nat)),K w0/\v=.tuple ⟨[]⟩/\Own vars h0 (((some gd),.cells (flatC (w0.map i64)) false)::((some gl),.cells [((ag 1 i64) lev)] false)::L) h'/\True:=by
 unfold fk at hm
 refine fg Tryz.func130 (Q:=fun v h'=>∃ (w0:(List Nat)),K w0/\v=.tuple ⟨[]⟩/\Own vars h0 (((some gd),.cells (flatC (w0.map i64)) false)::((some gl),.cells [((ag 1 i64) lev)] false)::L) h'/\True) ?_;conv=>whnf
 refine gX ?_
 refine aF hm fun hm=>?_;refine gX ?_
 refine lw 53 [0,1,2,3] (σ:=((List Nat)×Nat)) (fun s=>s) (fun (v1,v2) h=>Own vars h0 (((some gd),.cells (flatC (v1.map i64)) false)::((some gl),.cells [((ag 1 i64) lev)] false)::L) h) (fun (v1,v2)=>[(8,(i64 v2))]) (data,(a+1)) hm O ?_
 clear hm;rintro⟨v1,v2⟩ nx3 base h hm O
 refine gX ?_
 refine br hm (fun hm=>?_) fun hm=>?_
 ·apply Cs;conv=>whnf
  refine jn hm 53 [0,1,2,3,8] (fun s=>s) (fun v4 h=>Own vars h0 (((some gd),.cells (flatC (v4.map i64)) false)::((some gl),.cells [((ag 1 i64) lev)] false)::L) h) (fun v4=>[]) (fun hm=>?_) ?_
  ·refine gX ?_
   refine lw 53 [0,1,2,3,8] (σ:=((List Nat)×Nat)) (fun s=>s) (fun (v6,v7) h=>Own vars h0 (((some gd),.cells (flatC (v6.map i64)) false)::((some gl),.cells [((ag 1 i64) lev)] false)::L) h) (fun (v6,v7)=>[(9,(i64 v7))]) (v1,v2) hm O ?_
   clear hm;rintro⟨v6,v7⟩ nx8 base h hm O
   conv=>whnf
   apply Cs;conv=>whnf
   refine jn hm 53 [0,1,2,3,8,9] (fun s=>s) (fun v9 h=>Own vars h0 (((some gd),.cells (flatC (v6.map i64)) false)::((some gl),.cells [((ag 1 i64) lev)] false)::L) h) (fun v9=>[(34,(.bool v9))]) (fun hm=>?_) ?_
   ·refine gX ?_
    refine br hm (fun hm=>?_) fun hm=>?_
    ·refine gX ?_
     refine ix 1 hm fun x11 hx11 hm=>?_;refine gH ?_
     refine⟨_,ae rfl (O.at (.head _)) rfl (bd (enc:=i64) (s:=1) (k:=0) (fun _=>rfl) hx11 rfl),?_⟩;refine gH ?_
     refine rR hm fun hm=>?_;refine gH ?_
     refine ix 1 hm fun x12 hx12 hm=>?_;refine gH ?_
     refine⟨_,ae rfl (O.at (.head _)) rfl (bd (enc:=i64) (s:=1) (k:=0) (fun _=>rfl) hx12 rfl),?_⟩;refine gH ?_
     refine fg Tryz.func58 ?_;refine gX ?_
     first|refine⟨.inr (.inr (ae rfl (O.at (.tail _ (.head _))) rfl rfl)),?_⟩|refine⟨.inr (.inl (by kernel_rfl)),?_⟩
     refine gX ?_
     refine atF hm fun x13 hx13 hm=>?_;refine gH ?_
     first|refine⟨.inr (.inr (ae rfl (O.at (.tail _ (.head _))) rfl rfl)),?_⟩|refine⟨.inr (.inl (by kernel_rfl)),?_⟩
     refine gX ?_
     refine atF hm fun x14 hx14 hm=>?_;refine gH ?_
     refine ca (nZ hm O.has) fun r15 hm=>?_;refine gH ?_
     refine⟨.inl (Ext.refl _),?_⟩;refine gH ?_
     refine gX ?_
     refine⟨.inl (Ext.refl _),?_⟩;refine gH ?_
     exact jx (ltI r15 (Int.ofNat 0)) hm O
    ·refine gX ?_
     exact jx false hm O
   ·clear hm;rintro v9 base h hm O
    refine gX ?_
    refine br hm (fun hm=>?_) fun hm=>?_
    ·refine gX ?_
     refine rR hm fun hm=>?_;refine gH ?_
     refine rR hm fun hm=>?_;refine gH ?_
     refine ix 1 hm fun x16 hx16 hm=>?_;refine gH ?_
     refine⟨_,ae rfl (O.at (.head _)) rfl (bd (enc:=i64) (s:=1) (k:=0) (fun _=>rfl) hx16 rfl),?_⟩;refine gH ?_
     refine ix 1 hm fun x17 hx17 hm=>?_;refine gH ?_
     refine⟨_,ae rfl (O.at (.head _)) rfl (bd (enc:=i64) (s:=1) (k:=0) (fun _=>rfl) hx17 rfl),?_⟩;refine gH ?_
     refine ix 1 hm fun x18 hx18 hm=>?_;refine gH ?_
     refine O.stE 1 (.head _) hx18 x16 fun h O=>?_;refine gH ?_
     refine ix 1 hm fun x19 hx19 hm=>?_;refine gH ?_
     refine O.stE 1 (.head _) hx19 x17 fun h O=>?_;refine gH ?_
     refine gX ?_
     refine rR hm fun hm=>?_;refine gH ?_
     exact jx (((v6.set v7 x16).set (v7-1) x17),(v7-1)) hm O
    ·refine gX ?_
     exact jx v6 hm O
  ·clear hm;rintro v4 base h hm O
   refine gX ?_
   refine aF hm fun hm=>?_;refine gH ?_
   exact jx (v4,(v2+1)) hm O
 ·refine gX ?_
  exact⟨v1,hm,rfl,O,trivial⟩
def dQ (data:List Nat) (lev:List Nat) (nd:Nat) (n:Nat) (K:(List Nat)->Prop):Prop :=
 an (α:=((List Nat)×Nat)) (fun k3=>av (S:=((List Nat)×Nat×Nat)) (fun (v4,v5,v6) nx7=>((!ltN n v6)=true->fk v4 lev nd v5 v6 (fun x8=>v6+20<2 ^ 63/\nx7 (x8,v6,(v6+20))))/\((!ltN n v6)=false->k3 (v4,v5))) (data,0,20)) (fun (v1,v2)=>fk v1 lev nd v2 n (fun x9=>av (S:=Nat) (fun v10 nx11=>((ltN v10 n)=true->2*v10<2 ^ 63/\an (α:=Unit) (fun k12=>av (S:=Unit) (fun _ _nx13=>((!ltN n (2*v10))=true->0+v10<2 ^ 63/\False)/\((!ltN n (2*v10))=false->k12 ())) ()) (fun _=>an (α:=Unit) (fun k14=>0+v10<2 ^ 63/\((ltN (0+v10) n)=true->False)/\((ltN (0+v10) n)=false->k14 ())) (fun _=>v10*2<2 ^ 63/\nx11 (v10*2))))/\((ltN v10 n)=false->K x9)) 20))
theorem oG {data:List Nat}{lev:List Nat}{nd:Nat}{n:Nat}{gd:Nat}{gl:Nat}{L:List Slot}{K:(List Nat)->Prop} (hm:dQ data lev nd n K) {h0 h:Heap}  (O:Own vars h0 (((some gd),.cells (flatC (data.map i64)) false)::((some gl),.cells [((ag 1 i64) lev)] false)::L) h):∃ v h',CallD Tryz.prog NG 99 ⟨[(.slice (some ⟨gd,0,none⟩) nd nd),(i64 n),(.func (.func 58) ⟨[]⟩ ⟨[(.pointer (some ⟨gl,0,none⟩))]⟩)]⟩ h v h'/\∃ (w0:(List Nat)),K w0/\v=.tuple ⟨[]⟩/\Own vars h0 (((some gd),.cells (flatC (w0.map i64)) false)::((some gl),.cells [((ag 1 i64) lev)] false)::L) h'/\True:=by
 unfold dQ at hm
 refine fg Tryz.func99 (Q:=fun v h'=>∃ (w0:(List Nat)),K w0/\v=.tuple ⟨[]⟩/\Own vars h0 (((some gd),.cells (flatC (w0.map i64)) false)::((some gl),.cells [((ag 1 i64) lev)] false)::L) h'/\True) ?_;conv=>whnf
 apply Cs;conv=>whnf
 apply Cs;refine gH ?_
 apply Cs;conv=>whnf
 apply Cs;refine gH ?_
 refine jn hm 63 [0,1,2,6] (fun s=>s) (fun (v1,v2) h=>Own vars h0 (((some gd),.cells (flatC (v1.map i64)) false)::((some gl),.cells [((ag 1 i64) lev)] false)::L) h) (fun (v1,v2)=>[(7,(i64 v2))]) (fun hm=>?_) ?_
 ·refine gX ?_
  refine lw 63 [0,1,2,6] (σ:=((List Nat)×Nat×Nat)) (fun s=>s) (fun (v4,v5,v6) h=>Own vars h0 (((some gd),.cells (flatC (v4.map i64)) false)::((some gl),.cells [((ag 1 i64) lev)] false)::L) h) (fun (v4,v5,v6)=>[(7,(i64 v5)),(8,(i64 v6))]) (data,0,20) hm O ?_
  clear hm;rintro⟨v4,v5,v6⟩ nx7 base h hm O
  refine gX ?_
  refine br hm (fun hm=>?_) fun hm=>?_
  ·refine gX ?_
   obtain⟨_,h,hcall,x8,hm,rfl,O,_⟩:=lQ hm  O
   refine⟨_,_,hcall,?_⟩;refine gX ?_
   refine aF hm fun hm=>?_;refine gH ?_
   exact jx (x8,v6,(v6+20)) hm O
  ·refine gX ?_
   exact jx (v4,v5) hm O
 ·clear hm;rintro⟨v1,v2⟩ base h hm O
  refine gX ?_
  obtain⟨_,h,hcall,x9,hm,rfl,O,_⟩:=lQ hm  O
  refine⟨_,_,hcall,?_⟩;refine gX ?_
  refine lw 63 [0,1,2] (σ:=Nat) (fun s=>s) (fun v10 h=>Own vars h0 (((some gd),.cells (flatC (x9.map i64)) false)::((some gl),.cells [((ag 1 i64) lev)] false)::L) h) (fun v10=>[(6,(i64 v10))]) 20 hm O ?_
  clear hm;rintro v10 nx11 base h hm O
  refine gX ?_
  refine br hm (fun hm=>?_) fun hm=>?_
  ·refine gX ?_
   refine AT hm fun hm=>?_;refine gH ?_
   refine jn hm 63 [0,1,2,6] (fun s=>s) (fun _ h=>Own vars h0 (((some gd),.cells (flatC (x9.map i64)) false)::((some gl),.cells [((ag 1 i64) lev)] false)::L) h) (fun _=>[(7,(i64 0))]) (fun hm=>?_) ?_
   ·refine gX ?_
    refine lw 63 [0,1,2,6] (σ:=Unit) (fun s=>s) (fun _ h=>Own vars h0 (((some gd),.cells (flatC (x9.map i64)) false)::((some gl),.cells [((ag 1 i64) lev)] false)::L) h) (fun _=>[(7,(i64 0)),(8,(i64 (2*v10)))]) () hm O ?_
    clear hm;rintro _ nx13 base h hm O
    refine gX ?_
    refine br hm (fun hm=>?_) fun hm=>?_
    ·refine gX ?_
     refine aF hm fun hm=>?_;refine gH ?_
     exact False.elim hm
    ·refine gX ?_
     exact jx () hm O
   ·clear hm;rintro _ base h hm O
    conv=>whnf
    refine jn hm 63 [0,1,2,6] (fun s=>s) (fun _ h=>Own vars h0 (((some gd),.cells (flatC (x9.map i64)) false)::((some gl),.cells [((ag 1 i64) lev)] false)::L) h) (fun _=>[]) (fun hm=>?_) ?_
    ·refine gX ?_
     refine aF hm fun hm=>?_;refine gX ?_
     refine br hm (fun hm=>?_) fun hm=>?_
     ·refine gX ?_
      exact False.elim hm
     ·refine gX ?_
      exact jx () hm O
    ·clear hm;rintro _ base h hm O
     refine gX ?_
     refine AT hm fun hm=>?_;refine gH ?_
     exact jx (v10*2) hm O
  ·refine gX ?_
   exact⟨x9,hm,rfl,O,trivial⟩
def jf (data:List Nat) (lev:List Nat) (nd:Nat) (K:(List Nat)->Prop):Prop :=
 dQ data lev nd nd (fun x1=>K x1)
theorem rY {data:List Nat}{lev:List Nat}{nd:Nat}{gd:Nat}{gl:Nat}{L:List Slot}{K:(List Nat)->Prop} (hm:jf data lev nd K) {h0 h:Heap}  (O:Own vars h0 (((some gd),.cells (flatC (data.map i64)) false)::((some gl),.cells [((ag 1 i64) lev)] false)::L) h):∃ v h',CallD Tryz.prog NG 57 ⟨[(.slice (some ⟨gd,0,none⟩) nd nd),(.func (.func 58) ⟨[]⟩ ⟨[(.pointer (some ⟨gl,0,none⟩))]⟩)]⟩ h v h'/\∃ (w0:(List Nat)),K w0/\v=.tuple ⟨[]⟩/\Own vars h0 (((some gd),.cells (flatC (w0.map i64)) false)::((some gl),.cells [((ag 1 i64) lev)] false)::L) h'/\True:=by
 unfold jf at hm
 refine fg Tryz.func57 (Q:=fun v h'=>∃ (w0:(List Nat)),K w0/\v=.tuple ⟨[]⟩/\Own vars h0 (((some gd),.cells (flatC (w0.map i64)) false)::((some gl),.cells [((ag 1 i64) lev)] false)::L) h'/\True) ?_;conv=>whnf
 refine gX ?_
 obtain⟨_,h,hcall,x1,hm,rfl,O,_⟩:=oG hm  O
 refine⟨_,_,hcall,?_⟩;refine gH ?_
 exact⟨x1,hm,rfl,O,trivial⟩
def aW (p0:Circ) (K:((List Nat)×Nat)->Prop):Prop :=
 bU p0 (fun r1=>((neN r1.2 0)=true->K ([],r1.2))/\((neN r1.2 0)=false->8*p0.nodes.length<=2 ^ 48/\p0.nodes.length<2 ^ 63/\an (α:=(List Nat)) (fun k7=>av (S:=((List Nat)×Nat)) (fun (v8,v9) nx10=>((ltN v9 p0.nodes.length)=true->v9<p0.nodes.length/\∃ x11,v8[v9]?=some x11/\v9+1<2 ^ 63/\nx10 ((v8.set v9 v9),(v9+1)))/\((ltN v9 p0.nodes.length)=false->k7 v8)) ((List.replicate p0.nodes.length (0:Nat)),0)) (fun v6=>jf v6 r1.1 p0.nodes.length (fun x12=>p0.nodes.length=x12.length/\K (x12,0)))))
theorem cg {p0:Circ}{K:((List Nat)×Nat)->Prop} (hm:aW p0 K) {h0:Heap} (hB:HasB vars h0):∃ r,K r/\CallD Tryz.prog NG 34 ⟨[aA p0]⟩ h0 ((fun (r:((List Nat)×Nat))=>Value.tuple ⟨[(ag 1 i64) (r.1),i64 (r.2)]⟩) r) h0:=by
 unfold aW at hm
 refine fw Tryz.func34 hB (enc:=(fun (r:((List Nat)×Nat))=>Value.tuple ⟨[(ag 1 i64) (r.1),i64 (r.2)]⟩)) (fun r=>PureV.tup (aj.cons (dg (fun _=>aj.cons (PureV.flat rfl) aj.nil)) (aj.cons (PureV.flat rfl) (aj.nil)))) fun O=>?_;conv=>whnf
 refine gX ?_
 refine fz ?_;refine gX ?_
 refine ca (gI hm O.has) fun r1 hm=>?_;refine gH ?_
 refine O.new (ai (l:=[nS]) rfl rfl rfl) fun g2 h O=>?_;refine gH ?_
 refine O.stC 1 (.head _) [((ag 1 i64) r1.1)] fun h O=>?_;refine gX ?_
 refine br hm (fun hm=>?_) fun hm=>?_
 ·refine gX ?_
  exact⟨([],r1.2),hm,O.ext,fun h2 F=>VLe.tup (LLe.cons (VLe.nil _ _) (LLe.cons (VLe.refl _ _) (LLe.nil _)))⟩
 ·refine gX ?_
  refine O.mkL (enc:=i64) 8 1 0 hm fun g4 h O hm=>?_;refine gH ?_
  refine jn hm 34 [4,6] (fun s=>s) (fun v6 h=>Own vars h0 [(sC g2 [((ag 1 i64) r1.1)]),(sC g4 (flatC (v6.map i64)))] h) (fun v6=>[]) (fun hm=>?_) ?_
  ·refine gX ?_
   refine lw 34 [4,6,21] (σ:=((List Nat)×Nat)) (fun s=>s) (fun (v8,v9) h=>Own vars h0 [(sC g2 [((ag 1 i64) r1.1)]),(sC g4 (flatC (v8.map i64)))] h) (fun (v8,v9)=>[(22,(i64 v9))]) ((List.replicate p0.nodes.length (0:Nat)),0) hm (O.sel [1,0] (by decide)) ?_
   clear hm;rintro⟨v8,v9⟩ nx10 base h hm O
   refine gX ?_
   refine br hm (fun hm=>?_) fun hm=>?_
   ·refine gX ?_
    refine ix 1 hm fun x11 hx11 hm=>?_;refine gH ?_
    refine O.stE 1 (.tail _ (.head _)) hx11 v9 fun h O=>?_;refine gX ?_
    refine aF hm fun hm=>?_;refine gH ?_
    exact jx ((v8.set v9 v9),(v9+1)) hm O
   ·refine gX ?_
    exact jx v8 hm O
  ·clear hm;rintro v6 base h hm O
   refine gX ?_
   obtain⟨_,h,hcall,x12,hm,rfl,O,_⟩:=rY hm  (O.sel [1,0] (by decide))
   refine⟨_,_,hcall,?_⟩;refine gX ?_
   obtain⟨hn13,hm⟩:=hm
   exact⟨(x12,0),hm,O.ext,fun h2 F=>VLe.tup (LLe.cons (O.fY F (Nat.le_refl _) (.head _) (fun _=>rfl) hn13) (LLe.cons (VLe.refl _ _) (LLe.nil _)))⟩
theorem aJ {a b:Nat}:ltN a b=true↔a<b:=by rw[nT];simp
theorem aU {a b:Nat}:ltN a b=false↔b<=a:=by rw[nT];simp
theorem bo {a b:Nat}:eqN a b=true↔a=b:=by rw[vJ];simp
theorem bM {a b:Nat}:eqN a b=false ↔ ¬ a=b:=by rw[vJ];simp
theorem eL {a b:Nat}:neN a b=true ↔ ¬ a=b:=by rw[tL];simp
theorem pv {a b:Nat}:neN a b=false↔a=b:=by rw[tL];simp
theorem jz {a b:Nat}:(!ltN a b)=true↔b<=a:=by rw[nT];simp
theorem ma {a b:Nat}:(!ltN a b)=false↔a<b:=by rw[nT];simp
theorem dD {α:Type}{first:(α->Prop)->Prop}{rest:α->Prop} (h:first rest):an first rest:=h
theorem au {α:Type}{l:List α}{i:Nat} (h:i<l.length):∃ x,l[i]?=some x:=⟨l[i],List.getElem?_eq_getElem h⟩
theorem gB {α:Type}{l:List α}{body:(Unit->Prop)->Nat->(Nat->Prop)->Prop}{rest:Unit->Prop}
  (step:∀ k i nx x,l[i]?=some x->i+1<=l.length->nx (i+1)->body k i nx)
  (fin:∀ k i nx,l.length<=i->k ()->body k i nx) (h:rest ()):an (fun k=>av (fun i nx=>body k i nx) 0) rest:=by
 refine ay (fun i=>i<=l.length) (fun i=>l.length-i) (fun _=>True) ?_ (Nat.zero_le _) (fun _ _=>h)
 intro k i nx hi hn hk
 by_cases c:i<l.length
 ·obtain⟨x,hx⟩:=au c
  exact step k i nx x hx c (hn (i+1) c (by omega))
 ·exact fin k i nx (by omega) (hk () trivial)
def uc (v:Nat):Nat:=if v<=1 then 1-v else 2
def nL (low high:Nat):List Nat->Nat->Nat
 |[],out=>out
 |v::r,out=>if v=low then low else nL low high r (if v=high then out else 2)
def qK:List Nat->Nat->Nat
 |[],o=>o
 |v::r,o=>if v<=1 then qK r (o ^^^ v) else 2
def Aw (s a b:Nat):Nat:=if s=0 then min a 2 else if s=1 then min b 2 else if a=b then min a 2 else 2
def uJ (k:Nat) (l:List Nat):Nat :=
 if k=1 then 0 else if k=2 then 1 else if k=3 then min (l.getD 0 0) 2 else if k=4 then uc (l.getD 0 0)
 else if k=5 then nL 0 1 l 1 else if k=6 then uc (nL 0 1 l 1) else if k=7 then nL 1 0 l 0 else if k=8 then uc (nL 1 0 l 0)
 else if k=9 then qK l 0 else if k=10 then uc (qK l 0) else if k=11 then Aw (l.getD 0 0) (l.getD 1 0) (l.getD 2 0) else 2
theorem vz {p:Nat}{K:Bool->Prop} (h:K (decide (p<=1))):da p K:=by
 unfold da
 have:(!ltN 1 p)=decide (p<=1):=by
  rw[Bool.eq_iff_iff,jz];simp
 rw[this];exact h
theorem tm {p:Nat}{K:Nat->Prop} (h:K (uc p)):cP p K:=by
 unfold cP
 refine vz ?_
 unfold uc at h
 by_cases c:p<=1
 ·rw[if_pos c] at h
  exact⟨fun _=>⟨c,by decide,h⟩,fun hc=>absurd c (of_decide_eq_false hc)⟩
 ·rw[if_neg c] at h
  exact⟨fun hc=>absurd (of_decide_eq_true hc) c,fun _=>h⟩
theorem jF {α:Type}{l:List α}{i:Nat}{x:α} (h:l[i]?=some x):l.drop i=x::l.drop (i+1):=by
 obtain⟨h1,rfl⟩:=List.getElem?_eq_some_iff.1 h
 exact List.drop_eq_getElem_cons h1
theorem jR {l:List Nat}{low high:Nat}{K:Nat->Prop} (hl:l.length<2 ^ 60) (h:K (nL low high l high)):cm l low high K:=by
 unfold cm
 refine ay (fun s=>s.2<=l.length/\nL low high (l.drop s.2) s.1=nL low high l high) (fun s=>l.length-s.2) (fun a=>a=nL low high l high) ?_ ⟨Nat.zero_le _,rfl⟩ (fun a e=>by rw[e];exact h)
 rintro k ⟨o,i⟩ nx ⟨hi,hI⟩ hn hk
 refine⟨fun hc=>?_,fun hc=>?_⟩
 ·have hc:=aJ.1 hc
  obtain⟨x,hx⟩:=au hc
  simp only[jF hx,nL] at hI
  have next:∀ o',nL low high (l.drop (i+1)) o'=nL low high l high->i+1<2 ^ 63/\nx (o',i+1):=fun o' e=>⟨by omega,hn (o',i+1) ⟨hc,e⟩ (by simp only;omega)⟩
  refine⟨x,hx,fun h1=>?_,fun h1=>⟨fun h2=>?_,fun h2=>?_⟩⟩
  ·have h1:=bo.1 h1
   rw[if_pos h1] at hI
   rw[<- hI] at h
   exact h
  ·rw[if_neg (bM.1 h1),if_neg (eL.1 h2)] at hI
   exact next 2 hI
  ·rw[if_neg (bM.1 h1),if_pos (pv.1 h2)] at hI
   exact next o hI
 ·have hc:=aU.1 hc
  rw[List.drop_eq_nil_of_le hc] at hI
  exact hk o hI
theorem zb {l:List Nat}{K:Nat->Prop} (hl:l.length<2 ^ 60) (h:K (qK l 0)):dX l K:=by
 unfold dX
 refine ay (fun s=>s.2<=l.length/\s.1<=1/\qK (l.drop s.2) s.1=qK l 0) (fun s=>l.length-s.2) (fun a=>a=qK l 0) ?_ ⟨Nat.zero_le _,by decide,rfl⟩ (fun a e=>by rw[e];exact h)
 rintro k ⟨o,i⟩ nx ⟨hi,ho,hI⟩ hn hk
 refine⟨fun hc=>?_,fun hc=>?_⟩
 ·have hc:=aJ.1 hc
  obtain⟨x,hx⟩:=au hc
  simp only[jF hx,qK] at hI
  refine⟨x,hx,vz ⟨fun h1=>?_,fun h1=>?_⟩⟩
  ·have h1:¬ x<=1:=by simpa using h1
   rw[if_neg h1] at hI
   rw[<- hI] at h;exact h
  ·have h1:x<=1:=by simpa using h1
   rw[if_pos h1] at hI
   simp only at ho
   refine⟨by omega,by omega,by omega,hn (o ^^^ x,i+1) ⟨hc,?_,hI⟩ (by simp only;omega)⟩
   have q1:o=0\/o=1:=by omega
   have q2:x=0\/x=1:=by omega
   rcases q1 with rfl|rfl <;> rcases q2 with rfl|rfl <;> simp
 ·have hc:=aU.1 hc
  rw[List.drop_eq_nil_of_le hc] at hI
  exact hk o hI
def Arity (k n:Nat):Prop:=loN k<=n/\(Int.ofNat n<=hiZ k)
instance (k n:Nat):Decidable (Arity k n):=by unfold Arity;exact inferInstance
theorem oX {a b:Int}:ltI a b=false↔b<=a:=by rw[dB];simp
theorem lY {a b:Int}:ltI a b=true↔a<b:=by rw[dB];simp
theorem qM {k:Nat}{K:Nat×Int->Prop} (hk:k<256) (h:K (loN k,hiZ k)):fx k K:=⟨hk,h⟩
theorem xG {n:Nat} (h:Arity 3 n):n=1:=by
 obtain⟨h1,h2⟩:=h
 have e1:loN 3=1:=by decide
 have e2:hiZ 3=1:=by decide
 rw[e1] at h1;rw[e2] at h2
 simp only[Int.ofNat_eq_natCast] at h2;omega
theorem yk {n:Nat} (h:Arity 4 n):n=1:=by
 obtain⟨h1,h2⟩:=h
 have e1:loN 4=1:=by decide
 have e2:hiZ 4=1:=by decide
 rw[e1] at h1;rw[e2] at h2
 simp only[Int.ofNat_eq_natCast] at h2;omega
theorem ym {n:Nat} (h:Arity 11 n):n=3:=by
 obtain⟨h1,h2⟩:=h
 have e1:loN 11=3:=by decide
 have e2:hiZ 11=3:=by decide
 rw[e1] at h1;rw[e2] at h2
 simp only[Int.ofNat_eq_natCast] at h2;omega
theorem BC {s a b:Nat}{K:Nat->Prop} (h:K (Aw s a b)):fU s a b K:=by
 unfold fU bA
 unfold Aw at h
 refine⟨fun h1=>?_,fun h1=>⟨fun h2=>?_,fun h2=>⟨fun h3=>?_,fun h3=>?_⟩⟩⟩
 ·rw[if_pos (bo.1 h1)] at h;exact h
 ·rw[if_neg (bM.1 h1),if_pos (bo.1 h2)] at h;exact h
 ·rw[if_neg (bM.1 h1),if_neg (bM.1 h2),if_pos (bo.1 h3)] at h;exact h
 ·rw[if_neg (bM.1 h1),if_neg (bM.1 h2),if_neg (bM.1 h3)] at h;exact h
theorem getD_some {l:List Nat}{i:Nat} (h:i<l.length):l[i]?=some (l.getD i 0):=by
 rw[List.getD,List.getElem?_eq_getElem h];rfl
theorem Al {k:Nat}{l:List Nat}{K:Nat->Prop} (hk0:1<=k) (hk:k<12) (ha:Arity k l.length) (hl:l.length<2 ^ 60) (h:K (uJ k l)):aS k l K:=by
 unfold aS
 refine qM (by omega) ?_
 refine dD ?_
 refine⟨fun h1=>?_,fun h1=>?_⟩
 ·have:=aJ.1 h1;have:=ha.1;simp only at *;omega
 ·have e:ltI (hiZ k) (Int.ofNat l.length)=false:=oX.2 ha.2
  show (ltI (hiZ k) (Int.ofNat l.length)=true->_)/\_
  rw[e]
  refine⟨(fun hc=>by cases hc),fun _=>?_⟩
  unfold uJ at h
  refine⟨fun c=>?_,fun c1=>⟨fun c=>?_,fun c2=>⟨fun c=>?_,fun c3=>⟨fun c=>?_,fun c4=>⟨fun c=>?_,fun c5=>⟨fun c=>?_,fun c6=>⟨fun c=>?_,fun c7=>⟨fun c=>?_,fun c8=>⟨fun c=>?_,fun c9=>⟨fun c=>?_,fun c10=>⟨fun c=>?_,fun c11=>?_⟩⟩⟩⟩⟩⟩⟩⟩⟩⟩⟩
  ·have c:=bo.1 c;subst c;exact h
  ·have c:=bo.1 c;subst c;exact h
  ·have c:=bo.1 c;subst c
   exact⟨_,getD_some (by rw[xG ha];decide),h⟩
  ·have c:=bo.1 c;subst c
   exact⟨_,getD_some (by rw[yk ha];decide),tm h⟩
  ·have c:=bo.1 c;subst c;exact jR hl h
  ·have c:=bo.1 c;subst c;exact jR hl (tm h)
  ·have c:=bo.1 c;subst c;exact jR hl h
  ·have c:=bo.1 c;subst c;exact jR hl (tm h)
  ·have c:=bo.1 c;subst c;exact zb hl h
  ·have c:=bo.1 c;subst c;exact zb hl (tm h)
  ·have c:=bo.1 c;subst c
   have:=ym ha
   exact⟨_,getD_some (by omega),_,getD_some (by omega),_,getD_some (by omega),BC h⟩
  ·exfalso
   have a1:=bM.1 c1;have a2:=bM.1 c2;have a3:=bM.1 c3;have a4:=bM.1 c4;have a5:=bM.1 c5;have a6:=bM.1 c6;have a7:=bM.1 c7;have a8:=bM.1 c8;have a9:=bM.1 c9;have a10:=bM.1 c10;have a11:=bM.1 c11
   omega
structure GoodN (c:Circ) (i:Nat) (x:Node):Prop where
 kind:x.kind<=15
 arity:Arity x.kind x.ins.length
 ins:∀ k∈x.ins,k<c.nodes.length
 bus:x.kind=13->∀ k∈x.ins,∃ y,c.nodes[k]?=some y/\y.kind=12
 mem:x.kind≠15->x.mem=0/\x.bit=0
 memb:x.kind=15->∃ m,c.mems[x.mem]?=some m/\x.bit<m.data.length
 acyc:1<=x.kind->x.kind<=13->∀ k∈x.ins,k<i
structure GoodM (c:Circ) (m:Memo):Prop where
 addr:1<=m.addr.length/\m.addr.length<=8
 data:1<=m.data.length/\m.data.length<=32
 addrs:∀ k∈m.addr,k<c.nodes.length
 datas:∀ k∈m.data,k<c.nodes.length
 write:m.write<c.nodes.length
structure Good (c:Circ):Prop where
 len:c.nodes.length<=16
 names:c.names.length=c.nodes.length
 namesOk:NamesOk c
 fanOk:FanOk c
 mems:∀ m∈c.mems,GoodM c m
 memsLen:c.mems.length<=16
 outs:∀ o∈c.outs,o<c.nodes.length
 outsLen:c.outs.length<=16
 node:∀ i x,c.nodes[i]?=some x->GoodN c i x
 pos:0<c.nodes.length
theorem Cj (k:Nat) (hk:k<=15):hiZ k<=16:=by
 have:∀ k,k<=15->hiZ k<=16:=by decide
 exact this k hk
theorem GoodN.few {c:Circ}{i:Nat}{x:Node} (g:GoodN c i x):x.ins.length<=16:=by
 have h1:=Cj _ g.kind
 have h2:=g.arity.2
 simp only[Int.ofNat_eq_natCast] at h2
 omega
theorem jS {l:List Nat}{c:Circ}{K:Bool->Prop} (hl:∀ k∈l,k<c.nodes.length) (hn:l.length<2 ^ 60) (h:K false):ch l c K:=by
 unfold ch fP
 refine gB (l:=l) ?_ ?_ h
 ·intro k i nx x hx hi hnx
  have hx2:=hl x (List.mem_of_getElem? hx)
  exact⟨fun _=>⟨x,hx,fun h1=>absurd (aJ.1 h1) (Nat.not_lt_zero _),fun _=>⟨fun h2=>absurd (jz.1 h2) (by omega),fun _=>⟨by omega,hnx⟩⟩⟩,fun h1=>absurd (aU.1 h1) (by omega)⟩
 ·intro k i nx hi hk
  exact⟨fun h1=>absurd (aJ.1 h1) (by omega),fun _=>hk⟩
theorem xD {l:List Nat}{c:Circ}{K:Bool->Prop} (hl:∀ k∈l,∃ y,c.nodes[k]?=some y/\y.kind=12) (hn:l.length<2 ^ 60) (h:K false):fN l c K:=by
 unfold fN gq
 refine gB (l:=l) ?_ ?_ h
 ·intro k i nx x hx hi hnx
  obtain⟨y,hy,hk⟩:=hl x (List.mem_of_getElem? hx)
  exact⟨fun _=>⟨x,hx,y,hy,fun h1=>absurd hk (eL.1 h1),fun _=>⟨by omega,hnx⟩⟩,fun h1=>absurd (aU.1 h1) (by omega)⟩
 ·intro k i nx hi hk
  exact⟨fun h1=>absurd (aJ.1 h1) (by omega),fun _=>hk⟩
theorem tG {k:Nat}{K:Bool->Prop} (h:K (decide (1<=k/\k<=13))):bW k K:=by
 unfold bW
 by_cases c1:1<=k
 ·refine⟨fun _=>?_,fun q=>absurd (ma.1 q) (by omega)⟩
  have:(!ltN 13 k)=decide (1<=k/\k<=13):=by rw[Bool.eq_iff_iff,jz];simp[c1]
  rw[this];exact h
 ·refine⟨fun q=>absurd (jz.1 q) c1,fun _=>?_⟩
  have:decide (1<=k/\k<=13)=false:=decide_eq_false (fun q=>c1 q.1)
  rw[this] at h;exact h
theorem Bw {c:Circ}{x:Node}{K:Bool->Prop} (h1:x.kind≠15->x.mem=0/\x.bit=0) (h2:x.kind=15->∃ m,c.mems[x.mem]?=some m/\x.bit<m.data.length) (h:K true):cK c x K:=by
 unfold cK
 refine⟨fun q=>?_,fun q=>?_⟩
 ·obtain⟨a,b⟩:=h1 (eL.1 q)
  refine⟨fun _=>?_,fun q=>absurd a (bM.1 q)⟩
  rw[bo.2 b];exact h
 ·obtain⟨m,a,b⟩:=h2 (pv.1 q)
  refine⟨fun _=>⟨fun _=>⟨fun _=>⟨m,a,?_⟩,fun q=>absurd (ma.1 q) (Nat.not_lt_zero _)⟩,fun q=>absurd (aU.1 q) (by have:=ak a;omega)⟩,fun q=>absurd (ma.1 q) (Nat.not_lt_zero _)⟩
  rw[aJ.2 b];exact h
theorem A0 {c:Circ}{i:Nat}{x:Node}{K:Nat->Prop} (g:GoodN c i x) (h:K 0):cX c x K:=by
 have hf:=g.few
 unfold cX
 refine qM (by have:=g.kind;omega) ?_
 refine⟨fun q=>absurd (aJ.1 q) (by have:=g.kind;omega),fun _=>?_⟩
 have e1:ltN x.ins.length (loN x.kind)=false:=aU.2 g.arity.1
 have e2:ltI (hiZ x.kind) (Int.ofNat x.ins.length)=false:=oX.2 g.arity.2
 refine dD ?_
 refine⟨fun q=>absurd (q.symm.trans e1) (by decide),fun _=>?_⟩
 show (ltI (hiZ x.kind) (Int.ofNat x.ins.length)=true->_)/\_
 rw[e2]
 refine⟨(fun q=>by cases q),fun _=>jS g.ins (by omega) ⟨(fun q=>by cases q),fun _=>?_⟩⟩
 have last:(false=true->K 7)/\(false=false->cK c x fun r8=>((!r8)=true->K 1)/\((!r8)=false->K 0)) :=
  ⟨(fun q=>by cases q),fun _=>Bw g.mem g.memb ⟨(fun q=>by cases q),fun _=>h⟩⟩
 exact⟨fun q=>xD (g.bus (bo.1 q)) (by omega) last,fun _=>last⟩
theorem zu {c:Circ}{K:Nat->Prop} (g:NamesOk c) (h:K 0):fF c K:=⟨g,h⟩
theorem xO {c:Circ}{m:Memo}{K:Nat->Prop} (g:GoodM c m) (h:K 0):cq c m K:=by
 have h1:=g.addr
 have h2:=g.data
 unfold cq
 refine dD ⟨fun q=>absurd (bo.1 q) (by omega),fun _=>⟨fun q=>absurd (aJ.1 q) (by omega),fun _=>⟨fun q=>absurd (bo.1 q) (by omega),fun _=>?_⟩⟩⟩
 rw[aU.2 h2.2]
 refine⟨(fun q=>by cases q),fun _=>dD (jS g.addrs (by omega) ⟨(fun q=>by cases q),fun _=>jS g.datas (by omega) ⟨(fun q=>by cases q),fun _=>⟨fun q=>absurd (aJ.1 q) (Nat.not_lt_zero _),fun _=>?_⟩⟩⟩)⟩
 rw[aJ.2 g.write]
 exact⟨(fun q=>by cases q),fun _=>h⟩
theorem zo {c:Circ}{K:Nat->Prop} (g:Good c) (h:K 0):cR c K:=by
 have hlen:=g.len
 have hol:=g.outsLen
 unfold cR
 have e1:ltN 16384 c.nodes.length=false:=aU.2 (by omega)
 have e2:ltN 16 c.mems.length=false:=aU.2 g.memsLen
 have e3:ltN 16384 c.outs.length=false:=aU.2 (by omega)
 refine dD ?_
 refine⟨fun q=>absurd (q.symm.trans e1) (by decide),fun _=>⟨fun q=>absurd (q.symm.trans e2) (by decide),fun _=>?_⟩⟩
 show (ltN 16384 c.outs.length=true->_)/\_
 rw[e3]
 refine⟨(fun q=>by cases q),fun _=>⟨fun q=>absurd g.names (eL.1 q),fun _=>?_⟩⟩
 refine gB (l:=c.nodes) ?_ ?_ ?_
 ·intro k i nx x hx hi hnx
  exact⟨fun _=>⟨x,hx,A0 (g.node i x hx) ⟨(fun q=>absurd rfl (eL.1 q)),fun _=>⟨by omega,hnx⟩⟩⟩,fun h1=>absurd (aU.1 h1) (by omega)⟩
 ·intro k i nx hi hk
  exact⟨fun h1=>absurd (aJ.1 h1) (by omega),fun _=>hk⟩
 ·refine zu g.namesOk ⟨(fun q=>absurd rfl (eL.1 q)),fun _=>?_⟩
  refine gB (l:=c.mems) ?_ ?_ ?_
  ·intro k i nx x hx hi hnx
   have:=g.memsLen
   exact⟨fun _=>⟨x,hx,xO (g.mems x (List.mem_of_getElem? hx)) ⟨fun q=>absurd rfl (eL.1 q),fun _=>⟨by omega,hnx⟩⟩⟩,fun h1=>absurd (aU.1 h1) (by omega)⟩
  ·intro k i nx hi hk
   exact⟨fun h1=>absurd (aJ.1 h1) (by omega),fun _=>hk⟩
  ·exact jS g.outs (by omega) ⟨(fun q=>by cases q),fun _=>h⟩
def ofN (c:Circ) (ks:List Nat):List Nat:=(List.range c.nodes.length).filter fun i=>ks.contains ((c.nodes.map Node.kind).getD i 0)
theorem tN {l:List Nat}{k:Nat}{K:Bool->Prop} (hn:l.length<2 ^ 60) (h:K (l.contains k)):dr l k K:=by
 unfold dr gZ
 refine ay (fun i=>i<=l.length/\(l.take i).contains k=false) (fun i=>l.length-i) (fun _=>l.contains k=false) ?_ ⟨Nat.zero_le _,by simp⟩ (fun _ e=>by rw[e] at h;exact h)
 intro kk i nx ⟨hi,hI⟩ hnx hk
 refine⟨fun q=>?_,fun q=>?_⟩
 ·have q:=aJ.1 q
  obtain⟨x,hx⟩:=au q
  refine⟨x,hx,fun e=>?_,fun e=>⟨by omega,hnx (i+1) ⟨q,?_⟩ (by omega)⟩⟩
  ·have e:=bo.1 e
   have:l.contains k=true:=by simp;rw[e];exact List.mem_of_getElem? hx
   rw[this] at h
   have e2:(!ltI (Int.ofNat i) (Int.ofNat 0))=true:=by
    have:ltI (Int.ofNat i) (Int.ofNat 0)=false:=oX.2 (Int.natCast_nonneg i)
    rw[this];rfl
   show K (!ltI (Int.ofNat i) (Int.ofNat 0))
   rw[e2];exact h
  ·have e:=bM.1 e
   obtain⟨h1,rfl⟩:=List.getElem?_eq_some_iff.1 hx
   rw[List.take_succ_eq_append_getElem h1]
   simp only[List.contains_eq_mem,List.mem_append,List.mem_singleton,decide_eq_false_iff_not] at hI ⊢
   intro q2
   rcases q2 with q2|q2
   ·exact hI q2
   ·exact e q2
 ·have q:=aU.1 q
  rw[List.take_of_length_le q] at hI
  exact hk () hI
theorem Aa {c:Circ}{ks:List Nat}{K:List Nat->Prop} (hc:c.nodes.length<2 ^ 40) (hn:ks.length<2 ^ 60) (h:K (ofN c ks)):cr c ks K:=by
 unfold cr
 refine ay (fun s=>s.2<=c.nodes.length/\s.1=(List.range s.2).filter fun i=>ks.contains ((c.nodes.map Node.kind).getD i 0)) (fun s=>c.nodes.length-s.2) (fun a=>a=ofN c ks) ?_ ⟨Nat.zero_le _,rfl⟩ (fun a e=>by rw[e];exact h)
 rintro k ⟨o,i⟩ nx ⟨hi,hI⟩ hnx hk
 simp only at hi hI
 refine⟨fun q=>?_,fun q=>?_⟩
 ·have q:=aJ.1 q
  obtain⟨x,hx⟩:=au q
  have hkd:(c.nodes.map Node.kind).getD i 0=x.kind:=by rw[List.getD,List.getElem?_map,hx];rfl
  have hol:o.length<=i:=by rw[hI];exact Nat.le_trans (List.length_filter_le _ _) (by simp)
  refine⟨x,hx,tN hn ⟨fun e=>⟨by simp only[List.length_singleton];omega,by omega,hnx (o++[i],i+1) ⟨q,?_⟩ (by simp only;omega)⟩,fun e=>⟨by omega,hnx (o,i+1) ⟨q,?_⟩ (by simp only;omega)⟩⟩⟩
  ·show o++[i]=_
   rw[List.range_succ,List.filter_append,<- hI]
   simp only[List.filter_cons,hkd,e,if_true,List.filter_nil]
  ·show o=_
   rw[List.range_succ,List.filter_append,<- hI]
   simp only[List.filter_cons,hkd,e,List.filter_nil]
   simp
 ·have q:=aU.1 q
  have:i=c.nodes.length:=by omega
  subst this
  exact hk o hI
theorem eK {α:Type}{first:(α->Prop)->Prop}{rest:α->Prop} (P:α->Prop) (h1:∀ k,(∀ a,P a->k a)->first k) (h2:∀ a,P a->rest a):an first rest:=h1 rest h2
theorem bx {α:Type}{a:α}{first:(α->Prop)->Prop}{rest:α->Prop} (h1:rest a->first rest) (h2:rest a):an first rest:=h1 h2
def AK (e d:Nat):Nat:=if e=0 then 3 else if e=1 then min d 2 else 2
def mR (v:Nat):Nat:=if 3<v then 2 else v
def B1 (l:List Nat):Option Nat:=l.findIdx? fun v=>v != 3
def Aq (l:List Nat):Nat:=match B1 l with
 |none=>3
 |some i=>if (l.contains 0&&l.contains 1)||l.any (fun v=>mR v==2) then 2 else l.getD i 0
def jI (k:Nat) (l:List Nat):Nat:=if k=12 then AK (l.getD 0 0) (l.getD 1 0) else if k=13 then Aq l else uJ k l
theorem Bm {e d:Nat}{K:Nat->Prop} (h:K (AK e d)):fy e d K:=by
 unfold fy bA
 unfold AK at h
 refine⟨fun h1=>?_,fun h1=>⟨fun h2=>?_,fun h2=>?_⟩⟩
 ·rw[if_pos (bo.1 h1)] at h;exact h
 ·rw[if_neg (bM.1 h1),if_pos (bo.1 h2)] at h;exact h
 ·rw[if_neg (bM.1 h1),if_neg (bM.1 h2)] at h;exact h
theorem vh (i:Nat):(!ltI (Int.ofNat i) (Int.ofNat 0))=true:=by
 have:ltI (Int.ofNat i) (Int.ofNat 0)=false:=oX.2 (Int.natCast_nonneg i)
 rw[this];rfl
theorem ta {l:List Nat}{p:Nat->Bool}{K:Int->Prop}{body:(Unit->Prop)->Nat->(Nat->Prop)->Prop} (hl:l.length<2 ^ 60)
  (step:∀ k i nx x,l[i]?=some x->(p x=true->K (Int.ofNat i))->(p x=false->i+1<2 ^ 63/\nx (i+1))->body k i nx) (fin:∀ k i nx,l.length<=i->k ()->body k i nx)
  (h1:∀ i,l.findIdx? p=some i->K (Int.ofNat i)) (h2:l.findIdx? p=none->K (Int.negSucc 0)):an (fun k1=>av (fun v2 nx3=>body k1 v2 nx3) 0) (fun _:Unit=>K (Int.negSucc 0)):=by
 refine ay (fun i=>i<=l.length/\∀ j x,j<i->l[j]?=some x->p x=false) (fun i=>l.length-i) (fun _=>l.findIdx? p=none) ?_ ⟨Nat.zero_le _,fun j x h=>absurd h (Nat.not_lt_zero _)⟩ (fun _ e=>h2 e)
 intro k i nx ⟨hi,hI⟩ hnx hk
 by_cases c:i<l.length
 ·obtain⟨x,hx⟩:=au c
  refine step k i nx x hx (fun e=>h1 i ?_) (fun e=>⟨by omega,hnx (i+1) ⟨c,fun j y hj hy=>?_⟩ (by omega)⟩)
  ·rw[List.findIdx?_eq_some_iff_getElem]
   obtain⟨q1,q2⟩:=List.getElem?_eq_some_iff.1 hx
   refine⟨q1,by rw[q2];exact e,fun j hj=>?_⟩
   have:=hI j _ hj (List.getElem?_eq_getElem (by omega))
   simp[this]
  ·by_cases q:j=i
   ·subst q;rw[hx] at hy;cases hy;exact e
   ·exact hI j y (by omega) hy
 ·refine fin k i nx (by omega) (hk () ?_)
  rw[List.findIdx?_eq_none_iff]
  intro x m
  obtain⟨j,hj,rfl⟩:=List.getElem_of_mem m
  exact hI j _ (by omega) (List.getElem?_eq_getElem hj)
theorem xR {l:List Nat}{K:Int->Prop} (hl:l.length<2 ^ 60) (h1:∀ i,B1 l=some i->K (Int.ofNat i)) (h2:B1 l=none->K (Int.negSucc 0)):fI l K:=by
 unfold fI
 refine ta (l:=l) (p:=fun v=>v != 3) hl ?_ ?_ h1 h2
 ·intro k i nx x hx a b
  exact⟨fun _=>⟨x,hx,fun e=>a (by simpa using eL.1 e),fun e=>b (by simpa using pv.1 e)⟩,fun e=>absurd (ak hx) (by have:=aU.1 e;omega)⟩
 ·intro k i nx hi hk
  exact⟨fun e=>absurd (aJ.1 e) (by omega),fun _=>hk⟩
theorem uX {v:Nat}{K:Nat->Prop} (h:K (mR v)):de v K:=by
 unfold de
 unfold mR at h
 refine⟨fun e=>?_,fun e=>?_⟩
 ·rw[if_pos (aJ.1 e)] at h;exact h
 ·rw[if_neg (Nat.not_lt.2 (aU.1 e))] at h;exact h
theorem nh {l:List Nat}{p:Nat->Bool}:(∀ i,l.findIdx? p=some i->l.any p=true)/\(l.findIdx? p=none->l.any p=false):=by
 refine⟨fun i h=>?_,fun h=>?_⟩
 ·rw[List.findIdx?_eq_some_iff_getElem] at h
  obtain⟨h1,h2,_⟩:=h
  exact List.any_eq_true.2 ⟨_,List.getElem_mem h1,h2⟩
 ·rw[List.findIdx?_eq_none_iff] at h
  exact List.any_eq_false.2 fun x m=>by simp[h x m]
theorem qy {l:List Nat}{K:Bool->Prop} (hl:l.length<2 ^ 60) (h:K (l.any fun v=>mR v==2)):eI l K:=by
 unfold eI fR
 refine ta (l:=l) (p:=fun v=>mR v==2) (K:=fun r=>K (!ltI r (Int.ofNat 0))) hl ?_ ?_ (fun i e=>?_) (fun e=>?_)
 ·intro k i nx x hx a b
  exact⟨fun _=>⟨x,hx,uX ⟨fun e=>a (by simpa using bo.1 e),fun e=>b (by simpa using bM.1 e)⟩⟩,fun e=>absurd (ak hx) (by have:=aU.1 e;omega)⟩
 ·intro k i nx hi hk
  exact⟨fun e=>absurd (aJ.1 e) (by omega),fun _=>hk⟩
 ·rw[vh]
  rw[nh.1 i e] at h;exact h
 ·rw[nh.2 e] at h;exact h
theorem mV {l:List Nat}{x:Nat}{K:Bool->Prop} (hl:l.length<2 ^ 60) (h:K (l.contains x)):cE l x K:=by
 unfold cE hZ
 have hc:l.contains x=l.any fun v=>x==v:=by
  rw[List.contains_eq_any_beq]
 rw[hc] at h
 refine ta (l:=l) (p:=fun v=>x==v) (K:=fun r=>K (!ltI r (Int.ofNat 0))) hl ?_ ?_ (fun i e=>?_) (fun e=>?_)
 ·intro k i nx y hy a b
  exact⟨fun _=>⟨y,hy,fun e=>a (by simpa using bo.1 e),fun e=>b (by simpa using bM.1 e)⟩,fun e=>absurd (ak hy) (by have:=aU.1 e;omega)⟩
 ·intro k i nx hi hk
  exact⟨fun e=>absurd (aJ.1 e) (by omega),fun _=>hk⟩
 ·rw[vh]
  rw[nh.1 i e] at h;exact h
 ·rw[nh.2 e] at h;exact h
theorem B0 {l:List Nat}{K:Nat->Prop} (hl:l.length<2 ^ 60) (h:K (Aq l)):fS l K:=by
 unfold fS
 unfold Aq at h
 refine xR hl (fun i e=>?_) (fun e=>?_)
 ·rw[e] at h
  dsimp only at h
  refine⟨fun q=>absurd (lY.1 q) (by simp only[Int.ofNat_eq_natCast];omega),fun _=>?_⟩
  have hi:i<l.length:=(List.findIdx?_eq_some_iff_getElem.1 e).1
  refine eK (fun b=>b=((l.contains 0&&l.contains 1)||l.any fun v=>mR v==2)) (fun k hk=>?_) ?_
  ·unfold dH
   refine mV hl ⟨fun e0=>mV hl ⟨fun e1=>hk _ ?_,fun e1=>qy hl (hk _ ?_)⟩,fun e0=>⟨(fun e=>by cases e),fun _=>qy hl (hk _ ?_)⟩⟩
   ·rw[e0,e1];rfl
   ·rw[e0,e1];rfl
   ·rw[e0];rfl
  ·rintro b rfl
   refine⟨fun q=>?_,fun q=>⟨i,rfl,_,getD_some hi,?_⟩⟩
   ·rw[if_pos q] at h;exact h
   ·rw[if_neg (by rw[q];decide)] at h;exact h
 ·rw[e] at h
  exact⟨fun _=>h,fun q=>by cases q⟩
theorem yv {n:Nat} (h:Arity 12 n):n=2:=by
 obtain⟨h1,h2⟩:=h
 have e1:loN 12=2:=by decide
 have e2:hiZ 12=2:=by decide
 rw[e1] at h1;rw[e2] at h2
 simp only[Int.ofNat_eq_natCast] at h2;omega
theorem oc {n:Nat} (h:Arity 14 n):n=1:=by
 obtain⟨h1,h2⟩:=h
 have e1:loN 14=1:=by decide
 have e2:hiZ 14=1:=by decide
 rw[e1] at h1;rw[e2] at h2
 simp only[Int.ofNat_eq_natCast] at h2;omega
theorem qd {k:Nat}{l:List Nat}{K:Nat->Prop} (hk0:1<=k) (hk:k<14) (ha:Arity k l.length) (hl:l.length<2 ^ 60) (h:K (jI k l)):aS k l K:=by
 by_cases h12:k<12
 ·unfold jI at h
  rw[if_neg (by omega),if_neg (by omega)] at h
  exact Al hk0 h12 ha hl h
 unfold aS
 refine qM (by omega) ?_
 refine dD ?_
 refine⟨fun h1=>?_,fun h1=>?_⟩
 ·have:=aJ.1 h1;have:=ha.1;simp only at *;omega
 ·have e:ltI (hiZ k) (Int.ofNat l.length)=false:=oX.2 ha.2
  show (ltI (hiZ k) (Int.ofNat l.length)=true->_)/\_
  rw[e]
  refine⟨(fun hc=>by cases hc),fun _=>?_⟩
  unfold jI at h
  refine⟨fun c=>absurd (bo.1 c) (by omega),fun _=>⟨fun c=>absurd (bo.1 c) (by omega),fun _=>⟨fun c=>absurd (bo.1 c) (by omega),fun _=>⟨fun c=>absurd (bo.1 c) (by omega),fun _=>⟨fun c=>absurd (bo.1 c) (by omega),fun _=>⟨fun c=>absurd (bo.1 c) (by omega),fun _=>⟨fun c=>absurd (bo.1 c) (by omega),fun _=>⟨fun c=>absurd (bo.1 c) (by omega),fun _=>⟨fun c=>absurd (bo.1 c) (by omega),fun _=>⟨fun c=>absurd (bo.1 c) (by omega),fun _=>⟨fun c=>absurd (bo.1 c) (by omega),fun _=>⟨fun c=>?_,fun c1=>⟨fun c=>?_,fun c2=>?_⟩⟩⟩⟩⟩⟩⟩⟩⟩⟩⟩⟩⟩
  ·have c:=bo.1 c;subst c
   have:=yv ha
   exact⟨_,getD_some (by omega),_,getD_some (by omega),Bm h⟩
  ·have c:=bo.1 c;subst c
   exact B0 hl h
  ·have a1:=bM.1 c1;have a2:=bM.1 c2;omega
theorem zv (k:Nat) (l:List Nat):uJ k l<=2:=by
 have hn:∀ v,uc v<=2:=fun v=>by unfold uc;split <;> omega
 have hx:∀ (l:List Nat) (o:Nat),o<=1->qK l o<=2:=by
  intro l
  induction l with
  |nil=>intro o ho;unfold qK;omega
  |cons v r ih =>
   intro o ho
   unfold qK
   split
   ·refine ih _ ?_
    have q1:o=0\/o=1:=by omega
    have q2:v=0\/v=1:=by omega
    rcases q1 with rfl|rfl <;> rcases q2 with rfl|rfl <;> decide
   ·omega
 have hd:∀ (low high:Nat) (l:List Nat) (o:Nat),low<=2->o<=2->nL low high l o<=2:=by
  intro low high l
  induction l with
  |nil=>intro o h1 h2;exact h2
  |cons v r ih =>
   intro o h1 h2
   unfold nL
   split
   ·exact h1
   ·refine ih _ h1 ?_
    split
    ·exact h2
    ·omega
 unfold uJ
 repeat' split
 all_goals first|omega|exact hn _|exact hd _ _ _ _ (by decide) (by decide) | exact hx _ _ (by decide) | (unfold Aw;repeat' split) <;> omega
theorem ui (k:Nat) {l:List Nat} (hl:∀ v∈l,v<=3):jI k l<=3:=by
 unfold jI
 split
 ·unfold AK;repeat' split
  all_goals omega
 split
 ·unfold Aq
  split
  ·omega
  ·split
   ·omega
   ·rename_i i hi _
    obtain⟨h1,h2,_⟩:=List.findIdx?_eq_some_iff_getElem.1 hi
    rw[List.getD,List.getElem?_eq_getElem h1]
    exact hl _ (List.getElem_mem h1)
 ·have:=zv k l;omega
end Go.Proofs.YteceaohcjmbfbaaGreatDoor
